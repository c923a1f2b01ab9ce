/- The law IntegerOrder, walked. -/
import Derived.Test.YtpnhccpfbeidlaaFrontI
import Derived.Deep.LoopGhost
namespace Go.Proofs.Gv
open Go Go.RowKit

set_option maxRecDepth 100000 in
set_option maxHeartbeats 4000000 in
theorem order_great (na nb nc : Bool) (sa sb sc : ByteArray) (ha : sa.size ≤ maxLen) (hb0 : sb.size ≤ maxLen) (hc0 : sc.size ≤ maxLen) (hgr : gr [(na, sa), (nb, sb), (nc, sc)] = true) (w : World)
    : Calls Try.prog 7 #[.agg #[.bool na, .string sa], .agg #[.bool nb, .string sb], .agg #[.bool nc, .string sc]] w fun e w' => e = .returned (.bool true) ∧ Below w.heap.size w w' := by
  have HA := Lib.hid ha
  have HB := Lib.hid hb0
  have HC := Lib.hid hc0
  clear ha hb0 hc0
  go_enter Try.func7, Try.ntmps7
  have HL0 := Lib.hid (Below.refl w.heap.size w)
  have HD0 := Lib.hid (Bxs.nil w)
  have HL1 := Lib.hid (HL0.out.alloc HL0.out.size (.cells #[.bool na, .string sa] 23))
  have HD1 := Lib.hid (HD0.out.push' (w.heap.size) na sa (by simp))
  clear HL0 HD0
  have HL2 := Lib.hid (HL1.out.alloc HL1.out.size (.cells #[.bool nb, .string sb] 23))
  have HD2 := Lib.hid (HD1.out.push' (w.heap.size + 1) nb sb (by simp))
  clear HL1 HD1
  have HL3 := Lib.hid (HL2.out.alloc HL2.out.size (.cells #[.bool nc, .string sc] 23))
  have HD3 := Lib.hid (HD2.out.push' (w.heap.size + 1 + 1) nc sc (by simp))
  clear HL2 HD2
  obtain ⟨fx0, fy0⟩ := HD3.out.get (w.heap.size) na sa (by simp)
  obtain ⟨fx1, fy1⟩ := HD3.out.get (w.heap.size + 1) nb sb (by simp)
  obtain ⟨fx2, fy2⟩ := HD3.out.get (w.heap.size + 1 + 1) nc sc (by simp)
  go_wp2_with fail
  refine (great3 na sa nb sb nc sc _ (w.heap.size + 1 + 1 + 1) (by simp) HA.out HB.out HC.out).mono ?_
  rintro e w1 ⟨rfl, hb⟩
  have HL4 := Lib.hid (bstep HL3.out hb)
  have HD4 := Lib.hid (HD3.out.below hb)
  clear hb HL3 HD3
  go_wp2_with fail
  refine (awake01 _).mono ?_
  rintro e w2 ⟨rfl, hb⟩
  have HL5 := Lib.hid (bstep HL4.out hb)
  have HD5 := Lib.hid (HD4.out.below hb)
  clear hb HL4 HD4
  go_wp2
  go_ret
  exact ⟨rfl, HL5.out⟩

set_option maxRecDepth 100000 in
set_option maxHeartbeats 16000000 in
theorem order_law (na nac nb nbc nc nd nma nmb : Bool) (sa sac sb sbc sc sd sma smb : ByteArray) (ha : sa.size ≤ maxLen) (hb0 : sb.size ≤ maxLen) (hc0 : sc.size ≤ maxLen) (hgr : gr [(na, sa), (nb, sb), (nc, sc)] = false) (n0 m0 p0 q0 : Int) (hnn : IntKind.i64.wrap (-m0) = n0 ∧ decide (n0 < -1) = false ∧ decide (1 < n0) = false) (hcase : decide (n0 ≤ 0) = false ∨ (decide (n0 ≤ 0) = true ∧ decide (p0 ≤ 0) = false) ∨ (decide (n0 ≤ 0) = true ∧ decide (p0 ≤ 0) = true ∧ decide (0 < q0) = false)) (nz : Bool) (sz : ByteArray) (c1 c2 : Int) (bt : Nat) (hbt : bt ≤ 480) (pn hn : Nat → Bool) (ps hs : Nat → ByteArray) (hh0 : hn 0 = false ∧ hs 0 = ⟨#[]⟩) (hhs : ∀ k, hn (k + 1) = pn k ∧ hs (k + 1) = ps k) (hc2 : decide (0 ≤ c2) = true) (hcs : (decide (c1 < 0) = true ∧ nma = nz ∧ sma = sz) ∨ (decide (c1 < 0) = false ∧ na = nz ∧ sa = sz)) (HAD : ∀ k, k < bt → Hid (∀ W, Calls Try.prog 14 #[.agg #[.bool (pn k), .string (ps k)], .agg #[.bool (pn k), .string (ps k)]] W fun e w' => e = .returned (.agg #[.bool (pn (k + 1)), .string (ps (k + 1))]) ∧ Below W.heap.size W w')) (HC1 : Hid (∀ W, Calls Try.prog 29 #[.agg #[.bool nz, .string sz], .agg #[.bool (hn bt), .string (hs bt)]] W fun e w' => e = .returned (.int .i64 c2) ∧ Below W.heap.size W w')) (HC2 : Hid (∀ W, Calls Try.prog 29 #[.agg #[.bool nz, .string sz], .agg #[.bool (pn bt), .string (ps bt)]] W fun e w' => e = .returned (.int .i64 (-1)) ∧ Below W.heap.size W w')) (w : World)
    (H1 : ∀ W, Calls Try.prog 29 #[.agg #[.bool na, .string sa], .agg #[.bool nb, .string sb]] W fun e w' => e = .returned (.int .i64 n0) ∧ Below W.heap.size W w')
    (H2 : ∀ W, Calls Try.prog 29 #[.agg #[.bool nb, .string sb], .agg #[.bool na, .string sa]] W fun e w' => e = .returned (.int .i64 m0) ∧ Below W.heap.size W w')
    (H3 : ∀ W, Calls Try.prog 16 #[.agg #[.bool na, .string sa], .agg #[.bool nb, .string sb]] W fun e w' => e = .returned (.agg #[.bool nd, .string sd]) ∧ Below W.heap.size W w')
    (H4 : ∀ W, Calls Try.prog 29 #[.agg #[.bool nd, .string sd], .agg #[.bool false, .string ⟨#[]⟩]] W fun e w' => e = .returned (.int .i64 n0) ∧ Below W.heap.size W w')
    (H5 : ∀ W, Calls Try.prog 30 #[.agg #[.bool nb, .string sb]] W fun e w' => e = .returned (.agg #[.bool nmb, .string smb]) ∧ Below W.heap.size W w')
    (H6 : ∀ W, Calls Try.prog 30 #[.agg #[.bool na, .string sa]] W fun e w' => e = .returned (.agg #[.bool nma, .string sma]) ∧ Below W.heap.size W w')
    (H7 : ∀ W, Calls Try.prog 29 #[.agg #[.bool nmb, .string smb], .agg #[.bool nma, .string sma]] W fun e w' => e = .returned (.int .i64 n0) ∧ Below W.heap.size W w')
    (H8 : ∀ W, Calls Try.prog 14 #[.agg #[.bool na, .string sa], .agg #[.bool nc, .string sc]] W fun e w' => e = .returned (.agg #[.bool nac, .string sac]) ∧ Below W.heap.size W w')
    (H9 : ∀ W, Calls Try.prog 14 #[.agg #[.bool nb, .string sb], .agg #[.bool nc, .string sc]] W fun e w' => e = .returned (.agg #[.bool nbc, .string sbc]) ∧ Below W.heap.size W w')
    (H10 : ∀ W, Calls Try.prog 29 #[.agg #[.bool nac, .string sac], .agg #[.bool nbc, .string sbc]] W fun e w' => e = .returned (.int .i64 n0) ∧ Below W.heap.size W w')
    (H11 : ∀ W, Calls Try.prog 29 #[.agg #[.bool nb, .string sb], .agg #[.bool nc, .string sc]] W fun e w' => e = .returned (.int .i64 p0) ∧ Below W.heap.size W w')
    (H12 : ∀ W, Calls Try.prog 29 #[.agg #[.bool na, .string sa], .agg #[.bool nc, .string sc]] W fun e w' => e = .returned (.int .i64 q0) ∧ Below W.heap.size W w')
    (H13 : ∀ W, Calls Try.prog 29 #[.agg #[.bool na, .string sa], .agg #[.bool false, .string ⟨#[]⟩]] W fun e w' => e = .returned (.int .i64 c1) ∧ Below W.heap.size W w')
    (H14 : ∀ W, Calls Try.prog 32 #[.agg #[.bool na, .string sa]] W fun e w' => e = .returned (.int .i64 ((bt : Nat))) ∧ Below W.heap.size W w')
    (H15 : ∀ W, Calls Try.prog 31 #[.int .i64 1] W fun e w' => e = .returned (.agg #[.bool (pn 0), .string (ps 0)]) ∧ Below W.heap.size W w')
    : Calls Try.prog 7 #[.agg #[.bool na, .string sa], .agg #[.bool nb, .string sb], .agg #[.bool nc, .string sc]] w fun e w' => e = .returned (.bool true) ∧ Below w.heap.size w w' := by
  replace H1 := Lib.hid H1
  replace H2 := Lib.hid H2
  replace H3 := Lib.hid H3
  replace H4 := Lib.hid H4
  replace H5 := Lib.hid H5
  replace H6 := Lib.hid H6
  replace H7 := Lib.hid H7
  replace H8 := Lib.hid H8
  replace H9 := Lib.hid H9
  replace H10 := Lib.hid H10
  replace H11 := Lib.hid H11
  replace H12 := Lib.hid H12
  replace H13 := Lib.hid H13
  replace H14 := Lib.hid H14
  replace H15 := Lib.hid H15
  have HA := Lib.hid ha
  have HB := Lib.hid hb0
  have HC := Lib.hid hc0
  clear ha hb0 hc0
  have HH0 := Lib.hid hh0
  have HHS := Lib.hid hhs
  have HCS := Lib.hid hcs
  have HAD2 := Lib.hid HAD
  have HCA := Lib.hid hcase
  have HC2d := Lib.hid hc2
  have HN := Lib.hid hnn
  clear hh0 hhs hcs HAD hcase hc2 hnn
  go_enter Try.func7, Try.ntmps7
  have HL0 := Lib.hid (Below.refl w.heap.size w)
  have HD0 := Lib.hid (Bxs.nil w)
  have HL1 := Lib.hid (HL0.out.alloc HL0.out.size (.cells #[.bool na, .string sa] 23))
  have HD1 := Lib.hid (HD0.out.push' (w.heap.size) na sa (by simp))
  clear HL0 HD0
  have HL2 := Lib.hid (HL1.out.alloc HL1.out.size (.cells #[.bool nb, .string sb] 23))
  have HD2 := Lib.hid (HD1.out.push' (w.heap.size + 1) nb sb (by simp))
  clear HL1 HD1
  have HL3 := Lib.hid (HL2.out.alloc HL2.out.size (.cells #[.bool nc, .string sc] 23))
  have HD3 := Lib.hid (HD2.out.push' (w.heap.size + 1 + 1) nc sc (by simp))
  clear HL2 HD2
  obtain ⟨fx0, fy0⟩ := HD3.out.get (w.heap.size) na sa (by simp)
  obtain ⟨fx1, fy1⟩ := HD3.out.get (w.heap.size + 1) nb sb (by simp)
  obtain ⟨fx2, fy2⟩ := HD3.out.get (w.heap.size + 1 + 1) nc sc (by simp)
  go_wp2_with fail
  refine (great3 na sa nb sb nc sc _ (w.heap.size + 1 + 1 + 1) (by simp) HA.out HB.out HC.out).mono ?_
  rintro e w1 ⟨rfl, hb⟩
  have HL4 := Lib.hid (bstep HL3.out hb)
  have HD4 := Lib.hid (HD3.out.below hb)
  clear hb HL3 HD3
  have HL5 := Lib.hid (HL4.out.alloc HL4.out.size (.cells #[.bool false, .string ⟨#[]⟩] 23))
  have HD5 := Lib.hid (HD4.out.push' (w1.heap.size) false ⟨#[]⟩ (by simp))
  clear HL4 HD4
  obtain ⟨fx0, fy0⟩ := HD5.out.get (w.heap.size) na sa (by simp)
  obtain ⟨fx1, fy1⟩ := HD5.out.get (w.heap.size + 1) nb sb (by simp)
  go_wp2_with fail
  refine (H1.out _).mono ?_
  rintro e w2 ⟨rfl, hb⟩
  have HL6 := Lib.hid (bstep HL5.out hb)
  have HD6 := Lib.hid (HD5.out.below hb)
  clear hb HL5 HD5
  go_upto_region 5 with fail
  obtain ⟨Bw1, hB⟩ : ∃ B, w1.heap.size = B := ⟨_, rfl⟩
  rw [hB] at HD6 ⊢
  clear hB
  obtain ⟨W3, hW⟩ : ∃ W, w2 = W := ⟨_, rfl⟩
  rw [hW] at HD6 HL6 ⊢
  clear hW
  go_cut [81] (fun s81 wx => s81 = .bool false ∧ Below W3.heap.size W3 wx)
  case first =>
    obtain ⟨hn1, hn2, hn3⟩ := HN.out
    rcases HCA.out with hp | ⟨hp, hq⟩ | ⟨hp, hq, hr⟩
    ·
      haveI := cls_some W3
      have fq1 : ∀ u : Cl W3, u.x.cell? ⟨w.heap.size + 1, 0, none⟩ = some (.bool nb) := fun u => ((HD6.out.below u.h).get (w.heap.size + 1) nb sb (by simp)).1
      have fr1 : ∀ u : Cl W3, u.x.cell? ⟨w.heap.size + 1, 1, none⟩ = some (.string sb) := fun u => ((HD6.out.below u.h).get (w.heap.size + 1) nb sb (by simp)).2
      have fq0 : ∀ u : Cl W3, u.x.cell? ⟨w.heap.size, 0, none⟩ = some (.bool na) := fun u => ((HD6.out.below u.h).get (w.heap.size) na sa (by simp)).1
      have fr0 : ∀ u : Cl W3, u.x.cell? ⟨w.heap.size, 1, none⟩ = some (.string sa) := fun u => ((HD6.out.below u.h).get (w.heap.size) na sa (by simp)).2
      have fq3 : ∀ u : Cl W3, u.x.cell? ⟨Bw1, 0, none⟩ = some (.bool false) := fun u => ((HD6.out.below u.h).get (Bw1) false ⟨#[]⟩ (by simp)).1
      have fr3 : ∀ u : Cl W3, u.x.cell? ⟨Bw1, 1, none⟩ = some (.string ⟨#[]⟩) := fun u => ((HD6.out.below u.h).get (Bw1) false ⟨#[]⟩ (by simp)).2
      have fq2 : ∀ u : Cl W3, u.x.cell? ⟨w.heap.size + 1 + 1, 0, none⟩ = some (.bool nc) := fun u => ((HD6.out.below u.h).get (w.heap.size + 1 + 1) nc sc (by simp)).1
      have fr2 : ∀ u : Cl W3, u.x.cell? ⟨w.heap.size + 1 + 1, 1, none⟩ = some (.string sc) := fun u => ((HD6.out.below u.h).get (w.heap.size + 1 + 1) nc sc (by simp)).2
      refine wp_region_cls (by kernel_rfl) ?_
      iterate 3 (go_big_quiet_step (fail))
      go_big_quiet_step ((go_at_call 29; exact quiet_cls H2.out _))
      iterate 14 (go_big_quiet_step (fail))
      go_big_quiet_step ((go_at_call 16; exact quiet_cls H3.out _))
      iterate 1 (go_big_quiet_step (fail))
      go_big_quiet_step ((go_at_call 29; exact quiet_cls H4.out _))
      iterate 5 (go_big_quiet_step (fail))
      go_big_quiet_step ((go_at_call 30; exact quiet_cls H5.out _))
      iterate 1 (go_big_quiet_step (fail))
      go_big_quiet_step ((go_at_call 30; exact quiet_cls H6.out _))
      go_big_quiet_step ((go_at_call 29; exact quiet_cls H7.out _))
      iterate 6 (go_big_quiet_step (fail))
      go_big_quiet_step ((go_at_call 14; exact quiet_cls H8.out _))
      iterate 2 (go_big_quiet_step (fail))
      go_big_quiet_step ((go_at_call 14; exact quiet_cls H9.out _))
      go_big_quiet_step ((go_at_call 29; exact quiet_cls H10.out _))
      iterate 18 (go_big_quiet_step (fail))
      refine wpQuiet_nil ?_
      intro w4 hw9
      have hB : Below W3.heap.size W3 w4 := by obtain ⟨u, rfl⟩ := hw9; exact u.h
      clear hw9 fq1 fr1 fq0 fr0 fq3 fr3 fq2 fr2
      go_wp2_with fail
      go_meet
      exact ⟨rfl, hB⟩
    ·
      haveI := cls_some W3
      have fq1 : ∀ u : Cl W3, u.x.cell? ⟨w.heap.size + 1, 0, none⟩ = some (.bool nb) := fun u => ((HD6.out.below u.h).get (w.heap.size + 1) nb sb (by simp)).1
      have fr1 : ∀ u : Cl W3, u.x.cell? ⟨w.heap.size + 1, 1, none⟩ = some (.string sb) := fun u => ((HD6.out.below u.h).get (w.heap.size + 1) nb sb (by simp)).2
      have fq0 : ∀ u : Cl W3, u.x.cell? ⟨w.heap.size, 0, none⟩ = some (.bool na) := fun u => ((HD6.out.below u.h).get (w.heap.size) na sa (by simp)).1
      have fr0 : ∀ u : Cl W3, u.x.cell? ⟨w.heap.size, 1, none⟩ = some (.string sa) := fun u => ((HD6.out.below u.h).get (w.heap.size) na sa (by simp)).2
      have fq3 : ∀ u : Cl W3, u.x.cell? ⟨Bw1, 0, none⟩ = some (.bool false) := fun u => ((HD6.out.below u.h).get (Bw1) false ⟨#[]⟩ (by simp)).1
      have fr3 : ∀ u : Cl W3, u.x.cell? ⟨Bw1, 1, none⟩ = some (.string ⟨#[]⟩) := fun u => ((HD6.out.below u.h).get (Bw1) false ⟨#[]⟩ (by simp)).2
      have fq2 : ∀ u : Cl W3, u.x.cell? ⟨w.heap.size + 1 + 1, 0, none⟩ = some (.bool nc) := fun u => ((HD6.out.below u.h).get (w.heap.size + 1 + 1) nc sc (by simp)).1
      have fr2 : ∀ u : Cl W3, u.x.cell? ⟨w.heap.size + 1 + 1, 1, none⟩ = some (.string sc) := fun u => ((HD6.out.below u.h).get (w.heap.size + 1 + 1) nc sc (by simp)).2
      refine wp_region_cls (by kernel_rfl) ?_
      iterate 3 (go_big_quiet_step (fail))
      go_big_quiet_step ((go_at_call 29; exact quiet_cls H2.out _))
      iterate 14 (go_big_quiet_step (fail))
      go_big_quiet_step ((go_at_call 16; exact quiet_cls H3.out _))
      iterate 1 (go_big_quiet_step (fail))
      go_big_quiet_step ((go_at_call 29; exact quiet_cls H4.out _))
      iterate 5 (go_big_quiet_step (fail))
      go_big_quiet_step ((go_at_call 30; exact quiet_cls H5.out _))
      iterate 1 (go_big_quiet_step (fail))
      go_big_quiet_step ((go_at_call 30; exact quiet_cls H6.out _))
      go_big_quiet_step ((go_at_call 29; exact quiet_cls H7.out _))
      iterate 6 (go_big_quiet_step (fail))
      go_big_quiet_step ((go_at_call 14; exact quiet_cls H8.out _))
      iterate 2 (go_big_quiet_step (fail))
      go_big_quiet_step ((go_at_call 14; exact quiet_cls H9.out _))
      go_big_quiet_step ((go_at_call 29; exact quiet_cls H10.out _))
      iterate 8 (go_big_quiet_step (fail))
      go_big_quiet_step ((go_at_call 29; exact quiet_cls H11.out _))
      iterate 9 (go_big_quiet_step (fail))
      refine wpQuiet_nil ?_
      intro w5 hw9
      have hB : Below W3.heap.size W3 w5 := by obtain ⟨u, rfl⟩ := hw9; exact u.h
      clear hw9 fq1 fr1 fq0 fr0 fq3 fr3 fq2 fr2
      go_wp2_with fail
      go_meet
      exact ⟨rfl, hB⟩
    ·
      haveI := cls_some W3
      have fq1 : ∀ u : Cl W3, u.x.cell? ⟨w.heap.size + 1, 0, none⟩ = some (.bool nb) := fun u => ((HD6.out.below u.h).get (w.heap.size + 1) nb sb (by simp)).1
      have fr1 : ∀ u : Cl W3, u.x.cell? ⟨w.heap.size + 1, 1, none⟩ = some (.string sb) := fun u => ((HD6.out.below u.h).get (w.heap.size + 1) nb sb (by simp)).2
      have fq0 : ∀ u : Cl W3, u.x.cell? ⟨w.heap.size, 0, none⟩ = some (.bool na) := fun u => ((HD6.out.below u.h).get (w.heap.size) na sa (by simp)).1
      have fr0 : ∀ u : Cl W3, u.x.cell? ⟨w.heap.size, 1, none⟩ = some (.string sa) := fun u => ((HD6.out.below u.h).get (w.heap.size) na sa (by simp)).2
      have fq3 : ∀ u : Cl W3, u.x.cell? ⟨Bw1, 0, none⟩ = some (.bool false) := fun u => ((HD6.out.below u.h).get (Bw1) false ⟨#[]⟩ (by simp)).1
      have fr3 : ∀ u : Cl W3, u.x.cell? ⟨Bw1, 1, none⟩ = some (.string ⟨#[]⟩) := fun u => ((HD6.out.below u.h).get (Bw1) false ⟨#[]⟩ (by simp)).2
      have fq2 : ∀ u : Cl W3, u.x.cell? ⟨w.heap.size + 1 + 1, 0, none⟩ = some (.bool nc) := fun u => ((HD6.out.below u.h).get (w.heap.size + 1 + 1) nc sc (by simp)).1
      have fr2 : ∀ u : Cl W3, u.x.cell? ⟨w.heap.size + 1 + 1, 1, none⟩ = some (.string sc) := fun u => ((HD6.out.below u.h).get (w.heap.size + 1 + 1) nc sc (by simp)).2
      refine wp_region_cls (by kernel_rfl) ?_
      iterate 3 (go_big_quiet_step (fail))
      go_big_quiet_step ((go_at_call 29; exact quiet_cls H2.out _))
      iterate 14 (go_big_quiet_step (fail))
      go_big_quiet_step ((go_at_call 16; exact quiet_cls H3.out _))
      iterate 1 (go_big_quiet_step (fail))
      go_big_quiet_step ((go_at_call 29; exact quiet_cls H4.out _))
      iterate 5 (go_big_quiet_step (fail))
      go_big_quiet_step ((go_at_call 30; exact quiet_cls H5.out _))
      iterate 1 (go_big_quiet_step (fail))
      go_big_quiet_step ((go_at_call 30; exact quiet_cls H6.out _))
      go_big_quiet_step ((go_at_call 29; exact quiet_cls H7.out _))
      iterate 6 (go_big_quiet_step (fail))
      go_big_quiet_step ((go_at_call 14; exact quiet_cls H8.out _))
      iterate 2 (go_big_quiet_step (fail))
      go_big_quiet_step ((go_at_call 14; exact quiet_cls H9.out _))
      go_big_quiet_step ((go_at_call 29; exact quiet_cls H10.out _))
      iterate 8 (go_big_quiet_step (fail))
      go_big_quiet_step ((go_at_call 29; exact quiet_cls H11.out _))
      iterate 5 (go_big_quiet_step (fail))
      go_big_quiet_step ((go_at_call 29; exact quiet_cls H12.out _))
      iterate 3 (go_big_quiet_step (fail))
      refine wpQuiet_nil ?_
      intro w6 hw9
      have hB : Below W3.heap.size W3 w6 := by obtain ⟨u, rfl⟩ := hw9; exact u.h
      clear hw9 fq1 fr1 fq0 fr0 fq3 fr3 fq2 fr2
      go_wp2_with fail
      go_meet
      exact ⟨rfl, hB⟩
  case rest =>
    obtain ⟨rfl, hB⟩ := hcut
    obtain ⟨X5, rfl⟩ : ∃ X, X = wc := ⟨_, rfl⟩
    have HL7 := Lib.hid (bstep HL6.out hB)
    have HD7 := Lib.hid (HD6.out.below hB)
    clear hB HL6 HD6
    obtain ⟨fx0, fy0⟩ := HD7.out.get (w.heap.size) na sa (by simp)
    have hne3_9 : w.heap.size < X5.heap.size := by have := (HD7.out (w.heap.size, na, sa) (by simp)).lt; first | exact this | (simp at this; omega)
    have hne4_9 : w.heap.size + 1 < X5.heap.size := by have := (HD7.out (w.heap.size + 1, nb, sb) (by simp)).lt; first | exact this | (simp at this; omega)
    have hne5_9 : w.heap.size + 1 + 1 < X5.heap.size := by have := (HD7.out (w.heap.size + 1 + 1, nc, sc) (by simp)).lt; first | exact this | (simp at this; omega)
    have hne7_9 : Bw1 < X5.heap.size := by have := (HD7.out (Bw1, false, ⟨#[]⟩) (by simp)).lt; first | exact this | (simp at this; omega)
    have HL8 := Lib.hid (HL7.out.alloc HL7.out.size (.cells #[.bool na, .string sa] 23))
    have HD8 := Lib.hid (HD7.out.push' (X5.heap.size) na sa (by simp))
    clear HL7 HD7
    obtain ⟨fx0, fy0⟩ := HD8.out.get (w.heap.size) na sa (by simp)
    obtain ⟨fx3, fy3⟩ := HD8.out.get (Bw1) false ⟨#[]⟩ (by simp)
    go_wp2_with fail
    refine (H13.out _).mono ?_
    rintro e w7 ⟨rfl, hb⟩
    have HL9 := Lib.hid (bstep HL8.out hb)
    have HD9 := Lib.hid (HD8.out.below hb)
    clear hb HL8 HD8
    go_upto_if 86 with fail
    obtain ⟨BX5, hB⟩ : ∃ B, X5.heap.size = B := ⟨_, rfl⟩
    rw [hB] at HD9 ⊢
    try rw [hB] at hne3_9
    try rw [hB] at hne4_9
    try rw [hB] at hne5_9
    try rw [hB] at hne7_9
    clear hB
    obtain ⟨W8, hW⟩ : ∃ W, w7 = W := ⟨_, rfl⟩
    rw [hW] at HD9 HL9 ⊢
    clear hW
    go_cut [] (fun wx => Below w.heap.size w wx ∧ Bx wx (w.heap.size) na sa ∧ Bx wx (w.heap.size + 1) nb sb ∧ Bx wx (w.heap.size + 1 + 1) nc sc ∧ Bx wx (Bw1) false ⟨#[]⟩ ∧ Bx wx (BX5) nz sz)
    case first =>
      rcases HCS.out with ⟨hc1, rfl, rfl⟩ | ⟨hc1, rfl, rfl⟩
      ·
        rw [hc1]
        obtain ⟨fx0, fy0⟩ := HD9.out.get (w.heap.size) na sa (by simp)
        go_wp2_with fail
        refine (H6.out _).mono ?_
        rintro e w9 ⟨rfl, hb⟩
        have HL10 := Lib.hid (bstep HL9.out hb)
        have HD10 := Lib.hid (HD9.out.below hb)
        clear hb HL9 HD9
        obtain ⟨fx4, fy4, fz4, ft4, _⟩ := HD10.out (BX5, na, sa) (by simp)
        have HL11 := Lib.hid ((HL10.out.setCell (p := ⟨BX5, 0, none⟩) (by have := HL10.out.size; first | omega | (simp; omega)) (.bool nma)).setCell (p := ⟨BX5, 1, none⟩) (by have := HL10.out.size; first | omega | (simp; omega)) (.string sma))
        have HD11 := Lib.hid (Bxs.cons (Bxs.cons (Bxs.cons (Bxs.cons (Bxs.cons (Bxs.nil ((w9.setCell ⟨BX5, 0, none⟩ (.bool nma)).setCell ⟨BX5, 1, none⟩ (.string sma))) ((HD10.out (w.heap.size, na, sa) (by simp)).other (by omega))) ((HD10.out (w.heap.size + 1, nb, sb) (by simp)).other (by omega))) ((HD10.out (w.heap.size + 1 + 1, nc, sc) (by simp)).other (by omega))) ((HD10.out (Bw1, false, ⟨#[]⟩) (by simp)).other (by omega))) ((HD10.out (BX5, na, sa) (by simp)).set))
        clear HL10 HD10
        go_wp2_with fail
        go_meet
        exact ⟨HL11.out, HD11.out (w.heap.size, na, sa) (by simp), HD11.out (w.heap.size + 1, nb, sb) (by simp), HD11.out (w.heap.size + 1 + 1, nc, sc) (by simp), HD11.out (Bw1, false, ⟨#[]⟩) (by simp), HD11.out (BX5, nma, sma) (by simp)⟩
      ·
        rw [hc1]
        go_wp2_with fail
        go_meet
        exact ⟨HL9.out, HD9.out (w.heap.size, na, sa) (by simp), HD9.out (w.heap.size + 1, nb, sb) (by simp), HD9.out (w.heap.size + 1 + 1, nc, sc) (by simp), HD9.out (Bw1, false, ⟨#[]⟩) (by simp), HD9.out (BX5, na, sa) (by simp)⟩
    case rest =>
      obtain ⟨hl0, hbb0, hbb1, hbb2, hbb3, hbb4⟩ := hcut
      obtain ⟨X9, rfl⟩ : ∃ X, X = wc := ⟨_, rfl⟩
      have HL10 := Lib.hid hl0
      have HD10 := Lib.hid (Bxs.cons (Bxs.cons (Bxs.cons (Bxs.cons (Bxs.cons (Bxs.nil X9) hbb0) hbb1) hbb2) hbb3) hbb4)
      clear hl0 HL9 HD9 hbb0 hbb1 hbb2 hbb3 hbb4
      obtain ⟨fx0, fy0⟩ := HD10.out.get (w.heap.size) na sa (by simp)
      go_wp2_with fail
      refine (H14.out _).mono ?_
      rintro e w10 ⟨rfl, hb⟩
      have HL11 := Lib.hid (bstep HL10.out hb)
      have HD11 := Lib.hid (HD10.out.below hb)
      clear hb HL10 HD10
      go_wp2_with fail
      obtain ⟨W11, hW⟩ : ∃ W, w10 = W := ⟨_, rfl⟩
      rw [hW] at HD11 HL11 ⊢
      clear hW
      refine wp_region_front 6 zvI (by kernel_rfl) shI (by kernel_rfl) (by kernel_rfl) (zvI_alloc _ (by kernel_rfl)) (shI_store _ (by kernel_rfl)) ?_
      intro mm BW hm1 hm2 hBW
      haveI := clm_some mm BW
      have fq3 : ∀ u : Clm mm BW, u.x.cell? ⟨Bw1, 0, none⟩ = some (.bool false) := fun u => ((HD11.out.below (u.old hm1 hBW)).get (Bw1) false ⟨#[]⟩ (by simp)).1
      have fr3 : ∀ u : Clm mm BW, u.x.cell? ⟨Bw1, 1, none⟩ = some (.string ⟨#[]⟩) := fun u => ((HD11.out.below (u.old hm1 hBW)).get (Bw1) false ⟨#[]⟩ (by simp)).2
      simp only [frontOf, unmade, List.take_succ_cons, List.take_zero, List.map_cons, List.map_nil]
      go_big_quiet_step ((go_at_call 31; exact quiet_clm hm2 H15.out _))
      iterate 5 (go_big_quiet_step (fail))
      refine wpQuiet_nil ?_
      refine ⟨List.forall_mem_cons.2 ⟨by kernel_rfl, List.forall_mem_cons.2 ⟨by kernel_rfl, List.forall_mem_nil _⟩⟩, ?_⟩
      intro γ w12 hB hF
      clear hBW this hm1 hm2 fq3 fr3
      clear BW mm
      simp only [madesFrom, Facts, patch, List.take_succ_cons, List.take_zero, List.drop_succ_cons, List.drop_zero, Nat.zero_add, Nat.reduceAdd, List.mem_cons, List.not_mem_nil, or_false, forall_eq, forall_eq_or_imp, false_imp_iff, implies_true, and_true] at hF ⊢
      obtain ⟨⟨hp11, hl11, hk11, hn11⟩, hp12, hl12, hk12⟩ := hF
      obtain ⟨B11_12, hG⟩ : ∃ B, γ 2 = B := ⟨_, rfl⟩
      rw [hG] at hp11 hl11 hk11 hn11 ⊢
      clear hG
      obtain ⟨B12_12, hG⟩ : ∃ B, γ 3 = B := ⟨_, rfl⟩
      rw [hG] at hp12 hl12 hk12 hn11 ⊢
      clear hG
      have hq11 := bx_of (n := (pn 0)) (s := (ps 0)) (T := 23) hk11 hl11
      clear hk11 hl11
      have hq12 := bx_of (n := false) (s := ⟨#[]⟩) (T := 23) hk12 hl12
      clear hk12 hl12
      have HL12 := Lib.hid (bstep HL11.out hB)
      have HD12 := Lib.hid (Bxs.cons (Bxs.cons (HD11.out.below hB) hq11) hq12)
      have hne9_11 : BX5 < B11_12 := Nat.lt_of_lt_of_le (HD11.out (BX5, nz, sz) (by simp)).lt hp11
      have hne9_12 : BX5 < B12_12 := Nat.lt_of_lt_of_le (HD11.out (BX5, nz, sz) (by simp)).lt hp12
      have hne7_11 : Bw1 < B11_12 := Nat.lt_of_lt_of_le (HD11.out (Bw1, false, ⟨#[]⟩) (by simp)).lt hp11
      have hne7_12 : Bw1 < B12_12 := Nat.lt_of_lt_of_le (HD11.out (Bw1, false, ⟨#[]⟩) (by simp)).lt hp12
      have hnq11_12 := hn11
      clear hn11
      have hge11 := Nat.le_trans HL11.out.size hp11
      have hge12 := Nat.le_trans HL11.out.size hp12
      clear hB HL11 HD11 hp11 hq11 hp12 hq12
      go_wp2_with fail
      obtain ⟨W13, hW⟩ : ∃ W, w12 = W := ⟨_, rfl⟩
      rw [hW] at HD12 HL12 ⊢
      clear hW
      have hL := HL12.out
      have bP := HD12.out (B11_12, pn 0, ps 0) (by simp)
      have bH := HD12.out (B12_12, false, ⟨#[]⟩) (by simp)
      have bS := HD12.out (BX5, nz, sz) (by simp)
      have hsz := hL.size
      clear HD12 HL12
      go_loopg [100] (bt + 1) (fun gg v100 wr => ∃ k : Nat, v100 = .int .i64 k ∧ k ≤ bt ∧ bt + 1 - k ≤ gg ∧ Below w.heap.size w wr ∧ Bx wr (B11_12) (pn k) (ps k) ∧ Bx wr (B12_12) (hn k) (hs k) ∧ Bx wr (BX5) nz sz)
      case atStart => exact ⟨0, rfl, by omega, by omega, hL, bP, by rw [HH0.out.1, HH0.out.2]; exact bH, bS⟩
      case round =>
        clear bP bH bS hL
        obtain ⟨k, rfl, hk, hm, hbl, bP, bH, bS⟩ := hrel
        have HBL := Lib.hid hbl
        have HP := Lib.hid bP
        have HH := Lib.hid bH
        have HS := Lib.hid bS
        clear hbl bP bH bS
        by_cases hkl : k < bt
        · have hkI : (k : Int) < bt := by omega
          obtain ⟨x0, x1, x2, x3, x4⟩ := HP.out
          obtain ⟨y0, y1, y2, y3, y4⟩ := HH.out
          have hne : B11_12 ≠ B12_12 := by omega
          have HP1 := Lib.hid (HP.out.other (c := B12_12) (u := .bool (pn k)) (v := .string (ps k)) hne)
          have HH1 := Lib.hid (HH.out.set (n' := pn k) (s' := ps k))
          have HS1 := Lib.hid (HS.out.other (c := B12_12) (u := .bool (pn k)) (v := .string (ps k)) (by omega))
          have HBL1 := Lib.hid ((HBL.out.setCell (p := ⟨B12_12, 0, none⟩) (by omega) (.bool (pn k))).setCell (p := ⟨B12_12, 1, none⟩) (by omega) (.string (ps k)))
          obtain ⟨z0, z1, z2, z3, z4⟩ := HP1.out
          go_wp2_with fail
          refine ((HAD2.out k hkl).out _).mono ?_
          rintro e w70 ⟨rfl, hb⟩
          have HP2 := Lib.hid (HP1.out.below hb)
          have HH2 := Lib.hid (HH1.out.below hb)
          have HS2 := Lib.hid (HS1.out.below hb)
          have HBL2 := Lib.hid (bstep HBL1.out hb)
          clear hb
          obtain ⟨u0, u1, u2, u3, u4⟩ := HP2.out
          go_wp2
          go_roundg (bt - k)
          case rel => exact ⟨k + 1, by go_num, by omega, by omega, (HBL2.out.setCell (p := ⟨B11_12, 0, none⟩) (by omega) _).setCell (p := ⟨B11_12, 1, none⟩) (by omega) _, HP2.out.set, by rw [(HHS.out k).1, (HHS.out k).2]; exact HH2.out.other (by omega), HS2.out.other (by omega)⟩
          case measure => omega
        · have hkB : decide ((k : Int) < bt) = false := by simp; omega
          have hc2 := HC2d.out
          obtain rfl : k = bt := by omega
          clear hkl
          obtain ⟨x0, x1, x2, x3, x4⟩ := HP.out
          obtain ⟨y0, y1, y2, y3, y4⟩ := HH.out
          obtain ⟨z0, z1, z2, z3, z4⟩ := HS.out
          go_wp2_with fail
          refine (HC1.out _).mono ?_
          rintro e w8e1 ⟨rfl, hb⟩
          have HBLe1 := Lib.hid (bstep HBL.out hb)
          replace HP := Lib.hid (HP.out.below hb)
          replace HH := Lib.hid (HH.out.below hb)
          replace HS := Lib.hid (HS.out.below hb)
          clear hb
          obtain ⟨x0, x1, x2, x3, x4⟩ := HP.out
          obtain ⟨y0, y1, y2, y3, y4⟩ := HH.out
          obtain ⟨z0, z1, z2, z3, z4⟩ := HS.out
          go_wp2_with fail
          refine (HC2.out _).mono ?_
          rintro e w8e2 ⟨rfl, hb⟩
          have HBLe2 := Lib.hid (bstep HBLe1.out hb)
          replace HP := Lib.hid (HP.out.below hb)
          replace HH := Lib.hid (HH.out.below hb)
          replace HS := Lib.hid (HS.out.below hb)
          clear hb
          obtain ⟨x0, x1, x2, x3, x4⟩ := HP.out
          obtain ⟨y0, y1, y2, y3, y4⟩ := HH.out
          obtain ⟨z0, z1, z2, z3, z4⟩ := HS.out
          go_wp2_with fail
          refine (awake01 _).mono ?_
          rintro e w89 ⟨rfl, hb⟩
          have HBLf := Lib.hid (bstep HBLe2.out hb)
          clear hb
          go_wp2
          go_ret
          exact ⟨rfl, HBLf.out⟩

end Go.Proofs.Gv
