/- The law IntegerSums, walked. -/
import Derived.Test.YtpnhccpfbeidlaaLawKit
import Derived.Test.YtpnhccpfbeidlaaRefAdd
import Derived.OpenShut
namespace Go.Proofs.Gv
open Go Go.RowKit

set_option maxRecDepth 100000 in
set_option maxHeartbeats 4000000 in
theorem sums_great (na nb : Bool) (sa sb : ByteArray) (ha : sa.size ≤ maxLen) (hb0 : sb.size ≤ maxLen) (hgr : gr [(na, sa), (nb, sb)] = true) (w : World)
    : Calls Try.prog 3 #[.agg #[.bool na, .string sa], .agg #[.bool nb, .string sb]] w fun e w' => e = .returned (.bool true) ∧ Below w.heap.size w w' := by
  have HA := Lib.hid ha
  have HB := Lib.hid hb0
  clear ha hb0
  go_enter Try.func3, Try.ntmps3
  have HL0 := Lib.hid (Below.refl w.heap.size w)
  have HD0 := Lib.hid (Bxs.nil w)
  have HL1 := Lib.hid (HL0.out.alloc HL0.out.size (.cells #[.bool na, .string sa] 23))
  have HD1 := Lib.hid (HD0.out.push' (w.heap.size) na sa (by simp))
  clear HL0 HD0
  have HL2 := Lib.hid (HL1.out.alloc HL1.out.size (.cells #[.bool nb, .string sb] 23))
  have HD2 := Lib.hid (HD1.out.push' (w.heap.size + 1) nb sb (by simp))
  clear HL1 HD1
  obtain ⟨fx0, fy0⟩ := HD2.out.get (w.heap.size) na sa (by simp)
  obtain ⟨fx1, fy1⟩ := HD2.out.get (w.heap.size + 1) nb sb (by simp)
  go_wp2_with fail
  refine (great2 na sa nb sb _ (w.heap.size + 1 + 1) (by simp) HA.out HB.out).mono ?_
  rintro e w1 ⟨rfl, hb⟩
  have HL3 := Lib.hid (bstep HL2.out hb)
  have HD3 := Lib.hid (HD2.out.below hb)
  clear hb HL2 HD2
  go_wp2_with fail
  refine (awake01 _).mono ?_
  rintro e w2 ⟨rfl, hb⟩
  have HL4 := Lib.hid (bstep HL3.out hb)
  have HD4 := Lib.hid (HD3.out.below hb)
  clear hb HL3 HD3
  go_wp2
  go_ret
  exact ⟨rfl, HL4.out⟩

set_option maxRecDepth 100000 in
set_option maxHeartbeats 4000000 in
theorem sums_law (na nb nx ny nz : Bool) (sa sb sx sy sz : ByteArray) (ha : sa.size ≤ maxLen) (hb0 : sb.size ≤ maxLen) (hgr : gr [(na, sa), (nb, sb)] = false) (w : World)
    (H1 : ∀ W, Calls Try.prog 14 #[.agg #[.bool na, .string sa], .agg #[.bool nb, .string sb]] W fun e w' => e = .returned (.agg #[.bool nx, .string sx]) ∧ Below W.heap.size W w')
    (H2 : ∀ W, Calls Try.prog 15 #[.agg #[.bool na, .string sa], .agg #[.bool nb, .string sb]] W fun e w' => e = .returned (.agg #[.bool nx, .string sx]) ∧ Below W.heap.size W w')
    (H3 : ∀ W, Calls Try.prog 16 #[.agg #[.bool na, .string sa], .agg #[.bool nb, .string sb]] W fun e w' => e = .returned (.agg #[.bool ny, .string sy]) ∧ Below W.heap.size W w')
    (H4 : ∀ W, Calls Try.prog 17 #[.agg #[.bool na, .string sa], .agg #[.bool nb, .string sb]] W fun e w' => e = .returned (.agg #[.bool ny, .string sy]) ∧ Below W.heap.size W w')
    (H5 : ∀ W, Calls Try.prog 18 #[.agg #[.bool na, .string sa], .agg #[.bool nb, .string sb]] W fun e w' => e = .returned (.agg #[.bool nz, .string sz]) ∧ Below W.heap.size W w')
    (H6 : ∀ W, Calls Try.prog 19 #[.agg #[.bool na, .string sa], .agg #[.bool nb, .string sb]] W fun e w' => e = .returned (.agg #[.bool nz, .string sz]) ∧ Below W.heap.size W w')
    : Calls Try.prog 3 #[.agg #[.bool na, .string sa], .agg #[.bool nb, .string sb]] w fun e w' => e = .returned (.bool true) ∧ Below w.heap.size w w' := by
  replace H1 := Lib.hid H1
  replace H2 := Lib.hid H2
  replace H3 := Lib.hid H3
  replace H4 := Lib.hid H4
  replace H5 := Lib.hid H5
  replace H6 := Lib.hid H6
  have HA := Lib.hid ha
  have HB := Lib.hid hb0
  clear ha hb0
  have qx : eqI nx sx nx sx = true := eqI_iff.mpr ⟨rfl, rfl⟩
  have qy : eqI ny sy ny sy = true := eqI_iff.mpr ⟨rfl, rfl⟩
  have qz : eqI nz sz nz sz = true := eqI_iff.mpr ⟨rfl, rfl⟩
  go_enter Try.func3, Try.ntmps3
  have HL0 := Lib.hid (Below.refl w.heap.size w)
  have HD0 := Lib.hid (Bxs.nil w)
  have HL1 := Lib.hid (HL0.out.alloc HL0.out.size (.cells #[.bool na, .string sa] 23))
  have HD1 := Lib.hid (HD0.out.push' (w.heap.size) na sa (by simp))
  clear HL0 HD0
  have HL2 := Lib.hid (HL1.out.alloc HL1.out.size (.cells #[.bool nb, .string sb] 23))
  have HD2 := Lib.hid (HD1.out.push' (w.heap.size + 1) nb sb (by simp))
  clear HL1 HD1
  obtain ⟨fx0, fy0⟩ := HD2.out.get (w.heap.size) na sa (by simp)
  obtain ⟨fx1, fy1⟩ := HD2.out.get (w.heap.size + 1) nb sb (by simp)
  go_wp2_with fail
  refine (great2 na sa nb sb _ (w.heap.size + 1 + 1) (by simp) HA.out HB.out).mono ?_
  rintro e w1 ⟨rfl, hb⟩
  have HL3 := Lib.hid (bstep HL2.out hb)
  have HD3 := Lib.hid (HD2.out.below hb)
  clear hb HL2 HD2
  go_wp2_with fail
  obtain ⟨W2, hW⟩ : ∃ W, w1 = W := ⟨_, rfl⟩
  rw [hW] at HD3 HL3 ⊢
  clear hW
  haveI := cls_some W2
  have fq0 : ∀ u : Cl W2, u.x.cell? ⟨w.heap.size, 0, none⟩ = some (.bool na) := fun u => ((HD3.out.below u.h).get (w.heap.size) na sa (by simp)).1
  have fr0 : ∀ u : Cl W2, u.x.cell? ⟨w.heap.size, 1, none⟩ = some (.string sa) := fun u => ((HD3.out.below u.h).get (w.heap.size) na sa (by simp)).2
  have fq1 : ∀ u : Cl W2, u.x.cell? ⟨w.heap.size + 1, 0, none⟩ = some (.bool nb) := fun u => ((HD3.out.below u.h).get (w.heap.size + 1) nb sb (by simp)).1
  have fr1 : ∀ u : Cl W2, u.x.cell? ⟨w.heap.size + 1, 1, none⟩ = some (.string sb) := fun u => ((HD3.out.below u.h).get (w.heap.size + 1) nb sb (by simp)).2
  refine wp_region_cls (by kernel_rfl) ?_
  iterate 2 (go_big_quiet_step (fail))
  go_big_quiet_step ((go_at_call 14; exact quiet_cls H1.out _))
  iterate 2 (go_big_quiet_step (fail))
  go_big_quiet_step ((go_at_call 15; exact quiet_cls H2.out _))
  iterate 4 (go_big_quiet_step (fail))
  go_big_quiet_step ((go_at_call 16; exact quiet_cls H3.out _))
  iterate 2 (go_big_quiet_step (fail))
  go_big_quiet_step ((go_at_call 17; exact quiet_cls H4.out _))
  iterate 5 (go_big_quiet_step (fail))
  go_big_quiet_step ((go_at_call 18; exact quiet_cls H5.out _))
  iterate 2 (go_big_quiet_step (fail))
  go_big_quiet_step ((go_at_call 19; exact quiet_cls H6.out _))
  iterate 3 (go_big_quiet_step (fail))
  go_big_quiet_step ((go_at_call 13; exact quiet_cls awake01 _))
  iterate 2 (go_big_quiet_step (fail))
  refine wpQuiet_nil ?_
  intro w3 hw9
  have hB : Below W2.heap.size W2 w3 := by obtain ⟨u, rfl⟩ := hw9; exact u.h
  clear hw9 fq0 fr0 fq1 fr1
  have HL4 := Lib.hid (bstep HL3.out hB)
  have HD4 := Lib.hid (HD3.out.below hB)
  clear hB HL3 HD3
  go_wp2
  go_ret
  exact ⟨rfl, HL4.out⟩

end Go.Proofs.Gv

namespace Go.Proofs.Gv
open Go Go.RowKit

theorem law_sums (na : Bool) (sa : ByteArray) (nb : Bool) (sb : ByteArray) (w : World) (ha : sa.size ≤ maxLen) (hb : sb.size ≤ maxLen) :
    Calls Try.prog 3 #[.agg #[.bool na, .string sa], .agg #[.bool nb, .string sb]] w fun e w' => e = .returned (.bool true) ∧ Below w.heap.size w w' := by
  cases hgr : gr [(na, sa), (nb, sb)] with
  | true => exact sums_great na nb sa sb ha hb hgr w
  | false =>
    have ha6 : sa.size ≤ 60 := gr_false hgr (na, sa) (by simp)
    have hb6 : sb.size ≤ 60 := gr_false hgr (nb, sb) (by simp)
    have ra : Rp na sa (iv na sa) := ⟨rfl, by omega⟩
    have rb : Rp nb sb (iv nb sb) := ⟨rfl, by omega⟩
    have h1 : sa.size ≤ 100000 := by omega
    have h2 : sb.size ≤ 100000 := by omega
    exact sums_law _ _ _ _ _ _ _ _ _ _ ha hb hgr w (cAdd ra rb) (fun W => rAdd_any na nb sa sb _ _ W ra rb h1 h2)
      (cSub ra rb) (fun W => rSub_any na nb sa sb _ _ W ra rb h1 h2) (cMul ra rb) (fun W => rMul_any na nb sa sb _ _ W ra rb h1 h2)
end Go.Proofs.Gv
