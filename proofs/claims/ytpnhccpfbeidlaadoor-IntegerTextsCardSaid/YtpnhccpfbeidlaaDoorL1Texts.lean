/- The law IntegerTexts, walked. -/
import Derived.Test.YtpnhccpfbeidlaaDoorLawKit
import Derived.Test.YtpnhccpfbeidlaaDoorLawVal
import Derived.OpenShut
namespace Go.Proofs.Gv
open Go Go.RowKit

set_option maxRecDepth 100000 in
set_option maxHeartbeats 4000000 in
theorem texts_great (na : Bool) (sa : ByteArray) (st : ByteArray) (ha : sa.size ≤ maxLen) (hgr : gr [(na, sa)] = true) (w : World)
    : Calls Tryd.prog 3 #[.agg #[.bool na, .string sa], .string st] w fun e w' => e = .returned (.bool true) ∧ Below w.heap.size w w' := by
  have HA := Lib.hid ha
  clear ha
  go_enter Tryd.func3, Tryd.ntmps3
  have HL0 := Lib.hid (Below.refl w.heap.size w)
  have HD0 := Lib.hid (Bxs.nil w)
  have HL1 := Lib.hid (HL0.out.alloc HL0.out.size (.cells #[.bool na, .string sa] 23))
  have HD1 := Lib.hid (HD0.out.push' (w.heap.size) na sa (by simp))
  clear HL0 HD0
  obtain ⟨fx0, fy0⟩ := HD1.out.get (w.heap.size) na sa (by simp)
  go_wp2_with fail
  refine (great1 na sa _ (w.heap.size + 1) (by simp) HA.out).mono ?_
  rintro e w1 ⟨rfl, hb⟩
  have HL2 := Lib.hid (bstep HL1.out hb)
  have HD2 := Lib.hid (HD1.out.below hb)
  clear hb HL1 HD1
  go_wp2_with fail
  refine (awake01 _).mono ?_
  rintro e w2 ⟨rfl, hb⟩
  have HL3 := Lib.hid (bstep HL2.out hb)
  have HD3 := Lib.hid (HD2.out.below hb)
  clear hb HL2 HD2
  go_wp2
  go_ret
  exact ⟨rfl, HL3.out⟩

set_option maxRecDepth 100000 in
set_option maxHeartbeats 4000000 in
theorem texts_long (na : Bool) (sa : ByteArray) (st : ByteArray) (ha : sa.size ≤ maxLen) (hgr : gr [(na, sa)] = false) (hl : decide ((200 : Int) < st.size) = true) (hl2 : decide ((st.size : Int) ≤ 65536) = true) (w : World)
    : Calls Tryd.prog 3 #[.agg #[.bool na, .string sa], .string st] w fun e w' => e = .returned (.bool true) ∧ Below w.heap.size w w' := by
  have HA := Lib.hid ha
  clear ha
  go_enter Tryd.func3, Tryd.ntmps3
  have HL0 := Lib.hid (Below.refl w.heap.size w)
  have HD0 := Lib.hid (Bxs.nil w)
  have HL1 := Lib.hid (HL0.out.alloc HL0.out.size (.cells #[.bool na, .string sa] 23))
  have HD1 := Lib.hid (HD0.out.push' (w.heap.size) na sa (by simp))
  clear HL0 HD0
  obtain ⟨fx0, fy0⟩ := HD1.out.get (w.heap.size) na sa (by simp)
  go_wp2_with fail
  refine (great1 na sa _ (w.heap.size + 1) (by simp) HA.out).mono ?_
  rintro e w1 ⟨rfl, hb⟩
  have HL2 := Lib.hid (bstep HL1.out hb)
  have HD2 := Lib.hid (HD1.out.below hb)
  clear hb HL1 HD1
  go_wp2_with fail
  refine (awake01 _).mono ?_
  rintro e w2 ⟨rfl, hb⟩
  have HL3 := Lib.hid (bstep HL2.out hb)
  have HD3 := Lib.hid (HD2.out.below hb)
  clear hb HL2 HD2
  go_wp2
  go_ret
  exact ⟨rfl, HL3.out⟩

set_option maxRecDepth 100000 in
set_option maxHeartbeats 4000000 in
theorem texts_short (na nx : Bool) (sa sx : ByteArray) (st : ByteArray) (ha : sa.size ≤ maxLen) (hgr : gr [(na, sa)] = false) (tx : ByteArray) (e1 : Int) (hl : decide ((200 : Int) < st.size) = false) (w : World)
    (H1 : ∀ W, Calls Tryd.prog 7 #[.string st] W fun e w' => e = .returned (.tuple #[.agg #[.bool nx, .string sx], .int .i64 e1]) ∧ Below W.heap.size W w')
    (H2 : ∀ W, Calls Tryd.prog 8 #[.string st] W fun e w' => e = .returned (.tuple #[.agg #[.bool nx, .string sx], .int .i64 e1]) ∧ Below W.heap.size W w')
    (H3 : ∀ W, Calls Tryd.prog 9 #[.agg #[.bool na, .string sa]] W fun e w' => e = .returned (.string tx) ∧ Below W.heap.size W w')
    (H4 : ∀ W, Calls Tryd.prog 10 #[.agg #[.bool na, .string sa]] W fun e w' => e = .returned (.string tx) ∧ Below W.heap.size W w')
    : Calls Tryd.prog 3 #[.agg #[.bool na, .string sa], .string st] w fun e w' => e = .returned (.bool true) ∧ Below w.heap.size w w' := by
  replace H1 := Lib.hid H1
  replace H2 := Lib.hid H2
  replace H3 := Lib.hid H3
  replace H4 := Lib.hid H4
  have HA := Lib.hid ha
  clear ha
  have q1 : eqI nx sx nx sx = true := eqI_iff.mpr ⟨rfl, rfl⟩
  have qt : (tx.toList == tx.toList) = true := by simp
  go_enter Tryd.func3, Tryd.ntmps3
  have HL0 := Lib.hid (Below.refl w.heap.size w)
  have HD0 := Lib.hid (Bxs.nil w)
  have HL1 := Lib.hid (HL0.out.alloc HL0.out.size (.cells #[.bool na, .string sa] 23))
  have HD1 := Lib.hid (HD0.out.push' (w.heap.size) na sa (by simp))
  clear HL0 HD0
  obtain ⟨fx0, fy0⟩ := HD1.out.get (w.heap.size) na sa (by simp)
  go_wp2_with fail
  refine (great1 na sa _ (w.heap.size + 1) (by simp) HA.out).mono ?_
  rintro e w1 ⟨rfl, hb⟩
  have HL2 := Lib.hid (bstep HL1.out hb)
  have HD2 := Lib.hid (HD1.out.below hb)
  clear hb HL1 HD1
  go_wp2_with fail
  refine (H1.out _).mono ?_
  rintro e w2 ⟨rfl, hb⟩
  have HL3 := Lib.hid (bstep HL2.out hb)
  have HD3 := Lib.hid (HD2.out.below hb)
  clear hb HL2 HD2
  have HL4 := Lib.hid (HL3.out.alloc HL3.out.size (.cells #[.bool nx, .string sx] 23))
  have HD4 := Lib.hid (HD3.out.push' (w2.heap.size) nx sx (by simp))
  clear HL3 HD3
  go_wp2_with fail
  refine (H2.out _).mono ?_
  rintro e w3 ⟨rfl, hb⟩
  have HL5 := Lib.hid (bstep HL4.out hb)
  have HD5 := Lib.hid (HD4.out.below hb)
  clear hb HL4 HD4
  have HL6 := Lib.hid (HL5.out.alloc HL5.out.size (.cells #[.bool nx, .string sx] 23))
  have HD6 := Lib.hid (HD5.out.push' (w3.heap.size) nx sx (by simp))
  clear HL5 HD5
  go_wp2_with fail
  obtain ⟨Bw2, hB⟩ : ∃ B, w2.heap.size = B := ⟨_, rfl⟩
  rw [hB] at HD6 ⊢
  clear hB
  obtain ⟨Bw3, hB⟩ : ∃ B, w3.heap.size = B := ⟨_, rfl⟩
  rw [hB] at HD6 ⊢
  clear hB
  obtain ⟨W4, hW⟩ : ∃ W, (w3.alloc (.cells #[.bool nx, .string sx] 23)) = W := ⟨_, rfl⟩
  rw [hW] at HD6 HL6 ⊢
  clear hW
  haveI := cls_some W4
  have fq0 : ∀ u : Cl W4, u.x.cell? ⟨w.heap.size, 0, none⟩ = some (.bool na) := fun u => ((HD6.out.below u.h).get (w.heap.size) na sa (by simp)).1
  have fr0 : ∀ u : Cl W4, u.x.cell? ⟨w.heap.size, 1, none⟩ = some (.string sa) := fun u => ((HD6.out.below u.h).get (w.heap.size) na sa (by simp)).2
  have fq1 : ∀ u : Cl W4, u.x.cell? ⟨Bw2, 0, none⟩ = some (.bool nx) := fun u => ((HD6.out.below u.h).get (Bw2) nx sx (by simp)).1
  have fr1 : ∀ u : Cl W4, u.x.cell? ⟨Bw2, 1, none⟩ = some (.string sx) := fun u => ((HD6.out.below u.h).get (Bw2) nx sx (by simp)).2
  have fq2 : ∀ u : Cl W4, u.x.cell? ⟨Bw3, 0, none⟩ = some (.bool nx) := fun u => ((HD6.out.below u.h).get (Bw3) nx sx (by simp)).1
  have fr2 : ∀ u : Cl W4, u.x.cell? ⟨Bw3, 1, none⟩ = some (.string sx) := fun u => ((HD6.out.below u.h).get (Bw3) nx sx (by simp)).2
  refine wp_region_cls (by kernel_rfl) ?_
  iterate 1 (go_big_quiet_step (fail))
  go_big_quiet_step ((go_at_call 9; exact quiet_cls H3.out _))
  iterate 1 (go_big_quiet_step (fail))
  go_big_quiet_step ((go_at_call 10; exact quiet_cls H4.out _))
  iterate 12 (go_big_quiet_step (fail))
  go_big_quiet_step ((go_at_call 6; exact quiet_cls awake01 _))
  iterate 2 (go_big_quiet_step (fail))
  refine wpQuiet_nil ?_
  intro w5 hw9
  have hB : Below W4.heap.size W4 w5 := by obtain ⟨u, rfl⟩ := hw9; exact u.h
  clear hw9 fq0 fr0 fq1 fr1 fq2 fr2
  have HL7 := Lib.hid (bstep HL6.out hB)
  have HD7 := Lib.hid (HD6.out.below hB)
  clear hB HL6 HD6
  go_wp2
  go_ret
  exact ⟨rfl, HL7.out⟩

set_option maxRecDepth 100000 in
set_option maxHeartbeats 4000000 in
theorem texts_over (na nx : Bool) (sa sx : ByteArray) (st : ByteArray) (ha : sa.size ≤ maxLen) (hgr : gr [(na, sa)] = false) (tx : ByteArray) (e1 : Int) (hl : decide ((200 : Int) < st.size) = true) (hl2 : decide ((st.size : Int) ≤ 65536) = false) (w : World)
    (H1 : ∀ W, Calls Tryd.prog 7 #[.string st] W fun e w' => e = .returned (.tuple #[.agg #[.bool nx, .string sx], .int .i64 e1]) ∧ Below W.heap.size W w')
    (H2 : ∀ W, Calls Tryd.prog 8 #[.string st] W fun e w' => e = .returned (.tuple #[.agg #[.bool nx, .string sx], .int .i64 e1]) ∧ Below W.heap.size W w')
    (H3 : ∀ W, Calls Tryd.prog 9 #[.agg #[.bool na, .string sa]] W fun e w' => e = .returned (.string tx) ∧ Below W.heap.size W w')
    (H4 : ∀ W, Calls Tryd.prog 10 #[.agg #[.bool na, .string sa]] W fun e w' => e = .returned (.string tx) ∧ Below W.heap.size W w')
    : Calls Tryd.prog 3 #[.agg #[.bool na, .string sa], .string st] w fun e w' => e = .returned (.bool true) ∧ Below w.heap.size w w' := by
  replace H1 := Lib.hid H1
  replace H2 := Lib.hid H2
  replace H3 := Lib.hid H3
  replace H4 := Lib.hid H4
  have HA := Lib.hid ha
  clear ha
  have q1 : eqI nx sx nx sx = true := eqI_iff.mpr ⟨rfl, rfl⟩
  have qt : (tx.toList == tx.toList) = true := by simp
  go_enter Tryd.func3, Tryd.ntmps3
  have HL0 := Lib.hid (Below.refl w.heap.size w)
  have HD0 := Lib.hid (Bxs.nil w)
  have HL1 := Lib.hid (HL0.out.alloc HL0.out.size (.cells #[.bool na, .string sa] 23))
  have HD1 := Lib.hid (HD0.out.push' (w.heap.size) na sa (by simp))
  clear HL0 HD0
  obtain ⟨fx0, fy0⟩ := HD1.out.get (w.heap.size) na sa (by simp)
  go_wp2_with fail
  refine (great1 na sa _ (w.heap.size + 1) (by simp) HA.out).mono ?_
  rintro e w1 ⟨rfl, hb⟩
  have HL2 := Lib.hid (bstep HL1.out hb)
  have HD2 := Lib.hid (HD1.out.below hb)
  clear hb HL1 HD1
  go_wp2_with fail
  refine (H1.out _).mono ?_
  rintro e w2 ⟨rfl, hb⟩
  have HL3 := Lib.hid (bstep HL2.out hb)
  have HD3 := Lib.hid (HD2.out.below hb)
  clear hb HL2 HD2
  have HL4 := Lib.hid (HL3.out.alloc HL3.out.size (.cells #[.bool nx, .string sx] 23))
  have HD4 := Lib.hid (HD3.out.push' (w2.heap.size) nx sx (by simp))
  clear HL3 HD3
  go_wp2_with fail
  refine (H2.out _).mono ?_
  rintro e w3 ⟨rfl, hb⟩
  have HL5 := Lib.hid (bstep HL4.out hb)
  have HD5 := Lib.hid (HD4.out.below hb)
  clear hb HL4 HD4
  have HL6 := Lib.hid (HL5.out.alloc HL5.out.size (.cells #[.bool nx, .string sx] 23))
  have HD6 := Lib.hid (HD5.out.push' (w3.heap.size) nx sx (by simp))
  clear HL5 HD5
  go_wp2_with fail
  obtain ⟨Bw2, hB⟩ : ∃ B, w2.heap.size = B := ⟨_, rfl⟩
  rw [hB] at HD6 ⊢
  clear hB
  obtain ⟨Bw3, hB⟩ : ∃ B, w3.heap.size = B := ⟨_, rfl⟩
  rw [hB] at HD6 ⊢
  clear hB
  obtain ⟨W4, hW⟩ : ∃ W, (w3.alloc (.cells #[.bool nx, .string sx] 23)) = W := ⟨_, rfl⟩
  rw [hW] at HD6 HL6 ⊢
  clear hW
  haveI := cls_some W4
  have fq0 : ∀ u : Cl W4, u.x.cell? ⟨w.heap.size, 0, none⟩ = some (.bool na) := fun u => ((HD6.out.below u.h).get (w.heap.size) na sa (by simp)).1
  have fr0 : ∀ u : Cl W4, u.x.cell? ⟨w.heap.size, 1, none⟩ = some (.string sa) := fun u => ((HD6.out.below u.h).get (w.heap.size) na sa (by simp)).2
  have fq1 : ∀ u : Cl W4, u.x.cell? ⟨Bw2, 0, none⟩ = some (.bool nx) := fun u => ((HD6.out.below u.h).get (Bw2) nx sx (by simp)).1
  have fr1 : ∀ u : Cl W4, u.x.cell? ⟨Bw2, 1, none⟩ = some (.string sx) := fun u => ((HD6.out.below u.h).get (Bw2) nx sx (by simp)).2
  have fq2 : ∀ u : Cl W4, u.x.cell? ⟨Bw3, 0, none⟩ = some (.bool nx) := fun u => ((HD6.out.below u.h).get (Bw3) nx sx (by simp)).1
  have fr2 : ∀ u : Cl W4, u.x.cell? ⟨Bw3, 1, none⟩ = some (.string sx) := fun u => ((HD6.out.below u.h).get (Bw3) nx sx (by simp)).2
  refine wp_region_cls (by kernel_rfl) ?_
  iterate 1 (go_big_quiet_step (fail))
  go_big_quiet_step ((go_at_call 9; exact quiet_cls H3.out _))
  iterate 1 (go_big_quiet_step (fail))
  go_big_quiet_step ((go_at_call 10; exact quiet_cls H4.out _))
  iterate 12 (go_big_quiet_step (fail))
  go_big_quiet_step ((go_at_call 6; exact quiet_cls awake01 _))
  iterate 2 (go_big_quiet_step (fail))
  refine wpQuiet_nil ?_
  intro w5 hw9
  have hB : Below W4.heap.size W4 w5 := by obtain ⟨u, rfl⟩ := hw9; exact u.h
  clear hw9 fq0 fr0 fq1 fr1 fq2 fr2
  have HL7 := Lib.hid (bstep HL6.out hB)
  have HD7 := Lib.hid (HD6.out.below hB)
  clear hB HL6 HD6
  go_wp2
  go_ret
  exact ⟨rfl, HL7.out⟩

end Go.Proofs.Gv
