/- Layer 02: functions of rational, walked over the results of what they call (printed by gen02s.py). -/
import Derived.Test.YtamempcabmlodaaDoorRatTabP
import Derived.Test.YtamempcabmlodaaDoorVwP
import Derived.Test.YtamempcabmlodaaDoorSimp
import Derived.Test.YtamempcabmlodaaDoorRwsim2
set_option linter.unusedSimpArgs false
set_option linter.unusedVariables false
namespace Go.Proofs.Gv
open Go Go.RowKit

set_option maxRecDepth 100000 in
set_option maxHeartbeats 4000000 in
theorem ratSim_zero {na ma nc mc nb mb nd md nz mz : Bool} {sa ta sc tc sb tb sd td sz tz : ByteArray} (c1 : Int) (h1 : decide ((0 : Int) < c1) = false) (c2 : Int) (h2 : decide (c2 < 0) = false) (c3 : Int) (h3 : c3 ≤ 0) (w : World)
    (H1 : ∀ W, Calls Tryd.prog 36 #[.agg #[.bool na, .string sa, .bool ma, .string ta]] W fun e w' => e = .returned (.agg #[.bool nc, .string sc, .bool mc, .string tc]) ∧ Below W.heap.size W w')
    (H2 : ∀ W, Calls Tryd.prog 36 #[.agg #[.bool nb, .string sb, .bool mb, .string tb]] W fun e w' => e = .returned (.agg #[.bool nd, .string sd, .bool md, .string td]) ∧ Below W.heap.size W w')
    (H3 : ∀ W, Calls Tryd.prog 41 #[.agg #[.bool false, .string ⟨#[]⟩], .agg #[.bool false, .string ⟨#[]⟩]] W fun e w' => e = .returned (.agg #[.bool nz, .string sz, .bool mz, .string tz]) ∧ Below W.heap.size W w')
    (H4 : ∀ W, Calls Tryd.prog 15 #[.agg #[.bool nc, .string sc, .bool mc, .string tc], .agg #[.bool nd, .string sd, .bool md, .string td]] W fun e w' => e = .returned (.int .i64 c1) ∧ Below W.heap.size W w')
    (H5 : ∀ W, Calls Tryd.prog 15 #[.agg #[.bool nd, .string sd, .bool md, .string td], .agg #[.bool nz, .string sz, .bool mz, .string tz]] W fun e w' => e = .returned (.int .i64 c2) ∧ Below W.heap.size W w')
    (H6 : ∀ W, Calls Tryd.prog 15 #[.agg #[.bool nc, .string sc, .bool mc, .string tc], .agg #[.bool nz, .string sz, .bool mz, .string tz]] W fun e w' => e = .returned (.int .i64 c3) ∧ Below W.heap.size W w')
    : Calls Tryd.prog 28 #[.agg #[.bool na, .string sa, .bool ma, .string ta], .agg #[.bool nb, .string sb, .bool mb, .string tb]] w fun e w' => e = .returned (.tuple #[.agg #[.bool nz, .string sz, .bool mz, .string tz], .int .i64 0]) ∧ Below w.heap.size w w' := by
  replace H1 := Lib.hid H1
  replace H2 := Lib.hid H2
  replace H3 := Lib.hid H3
  replace H4 := Lib.hid H4
  replace H5 := Lib.hid H5
  replace H6 := Lib.hid H6
  go_enter Tryd.func28, Tryd.ntmps28
  have HL0 := Lib.hid (Below.refl w.heap.size w)
  have HB0 := Lib.hid (show Bs [] w from trivial)
  have HO0 := Lib.hid (show w.heap.size ≤ w.heap.size from by have := HL0.out.size; first | omega | (simp at this; omega))
  have HL1 := Lib.hid (HL0.out.alloc HL0.out.size (.cells #[.bool na, .string sa, .bool ma, .string ta] 25))
  have HB1 := Lib.hid (HB0.out.push (w.heap.size) #[.bool na, .string sa, .bool ma, .string ta] 25 (by first | rfl | simp))
  clear HL0 HB0
  have HO1 := Lib.hid (show w.heap.size < w.heap.size + 1 from by have := (HB1.out.1).lt; first | omega | (simp at this; omega))
  have HL2 := Lib.hid (HL1.out.alloc HL1.out.size (.cells #[.bool nb, .string sb, .bool mb, .string tb] 25))
  have HB2 := Lib.hid (HB1.out.push (w.heap.size + 1) #[.bool nb, .string sb, .bool mb, .string tb] 25 (by first | rfl | simp))
  clear HL1 HB1
  have HO2 := Lib.hid (show w.heap.size + 1 < w.heap.size + 1 + 1 from by have := (HB2.out.1).lt; first | omega | (simp at this; omega))
  have HL3 := Lib.hid (HL2.out.alloc HL2.out.size (.cells #[.bool false, .string ⟨#[]⟩, .bool false, .string ⟨#[]⟩] 25))
  have HB3 := Lib.hid (HB2.out.push (w.heap.size + 1 + 1) #[.bool false, .string ⟨#[]⟩, .bool false, .string ⟨#[]⟩] 25 (by first | rfl | simp))
  clear HL2 HB2
  go_wp2_with fail
  obtain ⟨W1, hW⟩ : ∃ W, (((w.alloc (.cells #[.bool na, .string sa, .bool ma, .string ta] 25)).alloc (.cells #[.bool nb, .string sb, .bool mb, .string tb] 25)).alloc (.cells #[.bool false, .string ⟨#[]⟩, .bool false, .string ⟨#[]⟩] 25)) = W := ⟨_, rfl⟩
  rw [hW] at HB3 HL3 ⊢
  clear hW
  refine wp_region_front 4 zvQ (by kernel_rfl) shQ (by kernel_rfl) (by kernel_rfl) (zvQ_alloc _ (by kernel_rfl)) (shQ_store _ (by kernel_rfl)) ?_
  intro mm BW hm1 hm2 hBW
  haveI := clm_some mm BW
  have fq0_0 : ∀ u : Clm mm BW, u.x.cell? ⟨w.heap.size, 0, none⟩ = some (.bool na) := fun u => ((HB3.out.bel (u.old hm1 hBW)).2.2.1).at 0 (.bool na) rfl
  have fq0_1 : ∀ u : Clm mm BW, u.x.cell? ⟨w.heap.size, 1, none⟩ = some (.string sa) := fun u => ((HB3.out.bel (u.old hm1 hBW)).2.2.1).at 1 (.string sa) rfl
  have fq0_2 : ∀ u : Clm mm BW, u.x.cell? ⟨w.heap.size, 2, none⟩ = some (.bool ma) := fun u => ((HB3.out.bel (u.old hm1 hBW)).2.2.1).at 2 (.bool ma) rfl
  have fq0_3 : ∀ u : Clm mm BW, u.x.cell? ⟨w.heap.size, 3, none⟩ = some (.string ta) := fun u => ((HB3.out.bel (u.old hm1 hBW)).2.2.1).at 3 (.string ta) rfl
  have fq1_0 : ∀ u : Clm mm BW, u.x.cell? ⟨w.heap.size + 1, 0, none⟩ = some (.bool nb) := fun u => ((HB3.out.bel (u.old hm1 hBW)).2.1).at 0 (.bool nb) rfl
  have fq1_1 : ∀ u : Clm mm BW, u.x.cell? ⟨w.heap.size + 1, 1, none⟩ = some (.string sb) := fun u => ((HB3.out.bel (u.old hm1 hBW)).2.1).at 1 (.string sb) rfl
  have fq1_2 : ∀ u : Clm mm BW, u.x.cell? ⟨w.heap.size + 1, 2, none⟩ = some (.bool mb) := fun u => ((HB3.out.bel (u.old hm1 hBW)).2.1).at 2 (.bool mb) rfl
  have fq1_3 : ∀ u : Clm mm BW, u.x.cell? ⟨w.heap.size + 1, 3, none⟩ = some (.string tb) := fun u => ((HB3.out.bel (u.old hm1 hBW)).2.1).at 3 (.string tb) rfl
  simp only [frontOf, unmade, List.take_succ_cons, List.take_zero, List.map_cons, List.map_nil]
  iterate 1 (go_big_quiet_step (fail))
  go_big_quiet_step ((go_at_call 36; exact quiet_clm hm2 H1.out _))
  iterate 1 (go_big_quiet_step (fail))
  go_big_quiet_step ((go_at_call 36; exact quiet_clm hm2 H2.out _))
  refine wpQuiet_nil ?_
  refine ⟨List.forall_mem_nil _, ?_⟩
  intro γ w2 hb hF
  clear hBW this hm1 hm2 fq0_0 fq0_1 fq0_2 fq0_3 fq1_0 fq1_1 fq1_2 fq1_3
  clear BW mm
  simp only [madesFrom, Facts, patch, List.take_succ_cons, List.take_zero, List.drop_succ_cons, List.drop_zero, Nat.zero_add, Nat.reduceAdd, List.mem_cons, List.not_mem_nil, or_false, forall_eq, forall_eq_or_imp, false_imp_iff, implies_true, and_true] at hF ⊢
  have HL4 := Lib.hid (bstep HL3.out hb)
  have HB4 := Lib.hid (HB3.out.bel hb)
  clear hb  hF
  clear HL3 HB3
  have fx0_0_4 := (HB4.out.2.2.1).at 0 (.bool na) rfl
  have fz0_0_4 := (HB4.out.2.2.1).z 0 (show 0 < 4 by decide)
  have fx0_1_4 := (HB4.out.2.2.1).at 1 (.string sa) rfl
  have fz0_1_4 := (HB4.out.2.2.1).z 1 (show 1 < 4 by decide)
  have fx0_2_4 := (HB4.out.2.2.1).at 2 (.bool ma) rfl
  have fz0_2_4 := (HB4.out.2.2.1).z 2 (show 2 < 4 by decide)
  have fx0_3_4 := (HB4.out.2.2.1).at 3 (.string ta) rfl
  have fz0_3_4 := (HB4.out.2.2.1).z 3 (show 3 < 4 by decide)
  have HL5 := Below.setCs (c := w.heap.size) (by have := HO0.out; have := HO1.out; have := HO2.out; omega) [.bool nc, .string sc, .bool mc, .string tc] _ 0 HL4.out
  have HB5 := Bs.store (c := w.heap.size) [.bool nc, .string sc, .bool mc, .string tc] 0 2 HB4.out (by simp only [Bs.ap, Bs.ap0, List.length_cons, List.length_nil, and_true, true_and]; have := HO0.out; have := HO1.out; have := HO2.out; omega)
  simp only [setCs, setL, Bs.put, List.set_cons_succ, List.set_cons_zero, Nat.zero_add, Nat.reduceAdd] at HL5 HB5
  replace HL5 := Lib.hid HL5
  replace HB5 := Lib.hid HB5
  clear HL4 HB4
  have fx1_0_5 := (HB5.out.2.1).at 0 (.bool nb) rfl
  have fz1_0_5 := (HB5.out.2.1).z 0 (show 0 < 4 by decide)
  have fx1_1_5 := (HB5.out.2.1).at 1 (.string sb) rfl
  have fz1_1_5 := (HB5.out.2.1).z 1 (show 1 < 4 by decide)
  have fx1_2_5 := (HB5.out.2.1).at 2 (.bool mb) rfl
  have fz1_2_5 := (HB5.out.2.1).z 2 (show 2 < 4 by decide)
  have fx1_3_5 := (HB5.out.2.1).at 3 (.string tb) rfl
  have fz1_3_5 := (HB5.out.2.1).z 3 (show 3 < 4 by decide)
  have HL6 := Below.setCs (c := w.heap.size + 1) (by have := HO0.out; have := HO1.out; have := HO2.out; omega) [.bool nd, .string sd, .bool md, .string td] _ 0 HL5.out
  have HB6 := Bs.store (c := w.heap.size + 1) [.bool nd, .string sd, .bool md, .string td] 0 1 HB5.out (by simp only [Bs.ap, Bs.ap0, List.length_cons, List.length_nil, and_true, true_and]; have := HO0.out; have := HO1.out; have := HO2.out; omega)
  simp only [setCs, setL, Bs.put, List.set_cons_succ, List.set_cons_zero, Nat.zero_add, Nat.reduceAdd] at HL6 HB6
  replace HL6 := Lib.hid HL6
  replace HB6 := Lib.hid HB6
  clear HL5 HB5
  go_wp2_with fail
  refine (H3.out _).mono ?_
  rintro e w3 ⟨rfl, hb⟩
  have HL7 := Lib.hid (bstep HL6.out hb)
  have HB7 := Lib.hid (HB6.out.bel hb)
  clear hb
  clear HL6 HB6 fx0_0_4 fz0_0_4 fx0_1_4 fz0_1_4 fx0_2_4 fz0_2_4 fx0_3_4 fz0_3_4 fx1_0_5 fz1_0_5 fx1_1_5 fz1_1_5 fx1_2_5 fz1_2_5 fx1_3_5 fz1_3_5
  have HO3 := Lib.hid (show w.heap.size + 1 + 1 < w3.heap.size from by have := (HB7.out.1).lt; first | omega | (simp at this; omega))
  have HL8 := Lib.hid (HL7.out.alloc HL7.out.size (.cells #[.bool nz, .string sz, .bool mz, .string tz] 25))
  have HB8 := Lib.hid (HB7.out.push (w3.heap.size) #[.bool nz, .string sz, .bool mz, .string tz] 25 (by first | rfl | simp))
  clear HL7 HB7
  have fx0_0_8 := (HB8.out.2.2.2.1).at 0 (.bool nc) rfl
  have fx0_1_8 := (HB8.out.2.2.2.1).at 1 (.string sc) rfl
  have fx0_2_8 := (HB8.out.2.2.2.1).at 2 (.bool mc) rfl
  have fx0_3_8 := (HB8.out.2.2.2.1).at 3 (.string tc) rfl
  have fx1_0_8 := (HB8.out.2.2.1).at 0 (.bool nd) rfl
  have fx1_1_8 := (HB8.out.2.2.1).at 1 (.string sd) rfl
  have fx1_2_8 := (HB8.out.2.2.1).at 2 (.bool md) rfl
  have fx1_3_8 := (HB8.out.2.2.1).at 3 (.string td) rfl
  go_wp2_with fail
  refine (H4.out _).mono ?_
  rintro e w4 ⟨rfl, hb⟩
  have HL9 := Lib.hid (bstep HL8.out hb)
  have HB9 := Lib.hid (HB8.out.bel hb)
  clear hb
  clear HL8 HB8 fx0_0_8 fx0_1_8 fx0_2_8 fx0_3_8 fx1_0_8 fx1_1_8 fx1_2_8 fx1_3_8
  have fx1_0_9 := (HB9.out.2.2.1).at 0 (.bool nd) rfl
  have fx1_1_9 := (HB9.out.2.2.1).at 1 (.string sd) rfl
  have fx1_2_9 := (HB9.out.2.2.1).at 2 (.bool md) rfl
  have fx1_3_9 := (HB9.out.2.2.1).at 3 (.string td) rfl
  have fx3_0_9 := (HB9.out.1).at 0 (.bool nz) rfl
  have fx3_1_9 := (HB9.out.1).at 1 (.string sz) rfl
  have fx3_2_9 := (HB9.out.1).at 2 (.bool mz) rfl
  have fx3_3_9 := (HB9.out.1).at 3 (.string tz) rfl
  go_wp2_with fail
  refine (H5.out _).mono ?_
  rintro e w5 ⟨rfl, hb⟩
  have HL10 := Lib.hid (bstep HL9.out hb)
  have HB10 := Lib.hid (HB9.out.bel hb)
  clear hb
  clear HL9 HB9 fx1_0_9 fx1_1_9 fx1_2_9 fx1_3_9 fx3_0_9 fx3_1_9 fx3_2_9 fx3_3_9
  have fx0_0_10 := (HB10.out.2.2.2.1).at 0 (.bool nc) rfl
  have fx0_1_10 := (HB10.out.2.2.2.1).at 1 (.string sc) rfl
  have fx0_2_10 := (HB10.out.2.2.2.1).at 2 (.bool mc) rfl
  have fx0_3_10 := (HB10.out.2.2.2.1).at 3 (.string tc) rfl
  have fx3_0_10 := (HB10.out.1).at 0 (.bool nz) rfl
  have fx3_1_10 := (HB10.out.1).at 1 (.string sz) rfl
  have fx3_2_10 := (HB10.out.1).at 2 (.bool mz) rfl
  have fx3_3_10 := (HB10.out.1).at 3 (.string tz) rfl
  go_wp2_with fail
  refine (H6.out _).mono ?_
  rintro e w6 ⟨rfl, hb⟩
  have HL11 := Lib.hid (bstep HL10.out hb)
  have HB11 := Lib.hid (HB10.out.bel hb)
  clear hb
  clear HL10 HB10 fx0_0_10 fx0_1_10 fx0_2_10 fx0_3_10 fx3_0_10 fx3_1_10 fx3_2_10 fx3_3_10
  have fx3_0_11 := (HB11.out.1).at 0 (.bool nz) rfl
  have fx3_1_11 := (HB11.out.1).at 1 (.string sz) rfl
  have fx3_2_11 := (HB11.out.1).at 2 (.bool mz) rfl
  have fx3_3_11 := (HB11.out.1).at 3 (.string tz) rfl
  have fx2_0_11 := (HB11.out.2.1).at 0 (.bool false) rfl
  have fz2_0_11 := (HB11.out.2.1).z 0 (show 0 < 4 by decide)
  have fx2_1_11 := (HB11.out.2.1).at 1 (.string ⟨#[]⟩) rfl
  have fz2_1_11 := (HB11.out.2.1).z 1 (show 1 < 4 by decide)
  have fx2_2_11 := (HB11.out.2.1).at 2 (.bool false) rfl
  have fz2_2_11 := (HB11.out.2.1).z 2 (show 2 < 4 by decide)
  have fx2_3_11 := (HB11.out.2.1).at 3 (.string ⟨#[]⟩) rfl
  have fz2_3_11 := (HB11.out.2.1).z 3 (show 3 < 4 by decide)
  have HL12 := Below.setCs (c := w.heap.size + 1 + 1) (by have := HO0.out; have := HO1.out; have := HO2.out; have := HO3.out; omega) [.bool nz, .string sz, .bool mz, .string tz] _ 0 HL11.out
  have HB12 := Bs.store (c := w.heap.size + 1 + 1) [.bool nz, .string sz, .bool mz, .string tz] 0 1 HB11.out (by simp only [Bs.ap, Bs.ap0, List.length_cons, List.length_nil, and_true, true_and]; have := HO0.out; have := HO1.out; have := HO2.out; have := HO3.out; omega)
  simp only [setCs, setL, Bs.put, List.set_cons_succ, List.set_cons_zero, Nat.zero_add, Nat.reduceAdd] at HL12 HB12
  replace HL12 := Lib.hid HL12
  replace HB12 := Lib.hid HB12
  clear HL11 HB11
  have fx2_0_12 := (HB12.out.2.1).at 0 (.bool nz) rfl
  have fx2_1_12 := (HB12.out.2.1).at 1 (.string sz) rfl
  have fx2_2_12 := (HB12.out.2.1).at 2 (.bool mz) rfl
  have fx2_3_12 := (HB12.out.2.1).at 3 (.string tz) rfl
  go_wp2
  refine bodyPost_ret (v := .tuple #[.agg #[.bool nz, .string sz, .bool mz, .string tz], .int .i64 0]) (by simp [results, Tryd.results28, go_sem, fx2_0_12, fx2_1_12, fx2_2_12, fx2_3_12]) rfl ?_
  exact ⟨rfl, HL12.out⟩
end Go.Proofs.Gv

namespace Go.Proofs.Gv
open Go Go.RowKit

/-- Two steps halve the denominator of the upper bound. -/
theorem cf_half {a b : Rat} (h0 : 0 < a) (hab : a ≤ b) (h1 : (a.floor : Rat) ≠ a) (h2 : ¬ ((a.floor + 1 : Int) : Rat) ≤ b)
    (h3 : (((b - a.floor)⁻¹).floor : Rat) ≠ (b - a.floor)⁻¹) (h4 : ¬ ((((b - a.floor)⁻¹).floor + 1 : Int) : Rat) ≤ (a - a.floor)⁻¹) :
    2 * (((b - a.floor)⁻¹ - ((b - a.floor)⁻¹).floor)⁻¹).den ≤ b.den := by
  obtain ⟨f0, f1, f2, p1, p2, d1, d2⟩ := sim_step h0 hab h1 h2
  have hb0 : 0 < b - a.floor := Rat.inv_pos.1 p1
  have hlt : b - a.floor < 1 := by grind
  obtain ⟨n1, n2⟩ := q_inv_num hb0
  obtain ⟨a', ha'⟩ : ∃ a', (b - a.floor)⁻¹ = a' := ⟨_, rfl⟩
  rw [ha'] at p1 p2 h3 h4 n1 n2 ⊢
  have hge : 1 ≤ a'.floor := by
    rw [Rat.le_floor_iff, Rat.intCast_one]
    have h5 : (b - a.floor) * a' = 1 := by rw [← ha']; exact Rat.mul_inv_cancel _ (by grind)
    by_cases hc : 1 ≤ a'
    · exact hc
    · exfalso
      have hc' : a' < 1 := Rat.not_le.1 hc
      have h6 := Rat.mul_lt_mul_of_pos_right hlt p1
      rw [h5, Rat.one_mul] at h6
      grind
  obtain ⟨_, g1, g2, q1, q2, e1, e2⟩ := sim_step p1 p2 h3 h4
  have hx0 : 0 < a' - a'.floor := by grind
  obtain ⟨m1, m2⟩ := q_inv_num hx0
  have k3 : a' - a'.floor = ((-a'.floor : Int) : Rat) + a' := by rw [Rat.intCast_neg]; grind
  have k4 := q_addInt_num a' (-a'.floor)
  rw [k3] at m2
  rw [k4.1] at m2
  have k5 : b - a.floor = ((-a.floor : Int) : Rat) + b := by rw [Rat.intCast_neg]; grind
  have k6 := q_addInt_num b (-a.floor)
  have k7 : (b - a.floor).den = b.den := by rw [k5]; exact k6.2
  rw [k7] at n1
  rw [k3]
  have hx1 : a'.floor ≥ 1 := hge
  have hd : (0 : Int) < a'.den := by have := a'.den_pos; omega
  -- (a' - floor).num = a'.num - floor * a'.den, less than a'.den
  have h7 : a' - a'.floor < ((1 : Int) : Rat) := by
    have := Rat.lt_floor_add_one a'
    rw [Rat.intCast_add, Rat.intCast_one] at this
    rw [Rat.intCast_one]; grind
  rw [Rat.lt_iff, Rat.den_intCast, Rat.num_intCast, k3, k4.1, k4.2] at h7
  have h8 : a'.floor * (a'.den : Int) ≥ a'.den := by
    have := Int.mul_le_mul_of_nonneg_right hge (Int.le_of_lt hd)
    omega
  rw [Int.neg_mul] at m2 h7
  omega
theorem cf_len : ∀ (j k : Nat) (a b : Rat), 0 < a → a ≤ b → b.den < 2 ^ j → (cfF k a b).length ≤ 2 * j + 1
  | 0, k, a, b, _, _, h => by have := b.den_pos; simp at h; omega
  | j + 1, k, a, b, h0, hab, h => by
    match k with
    | 0 => simp [cfF]
    | k + 1 =>
      unfold cfF
      by_cases h1 : (a.floor : Rat) = a
      · rw [if_pos h1]; simp
      rw [if_neg h1]
      by_cases h2 : ((a.floor + 1 : Int) : Rat) ≤ b
      · rw [if_pos h2]; simp
      rw [if_neg h2]
      obtain ⟨_, _, _, p1, p2, _, _⟩ := sim_step h0 hab h1 h2
      match k with
      | 0 => simp [cfF]; omega
      | k + 1 =>
        have hh := cf_half h0 hab h1 h2
        obtain ⟨a', ha'⟩ : ∃ a', (b - a.floor)⁻¹ = a' := ⟨_, rfl⟩
        rw [ha'] at p1 p2 hh ⊢
        obtain ⟨b', hb'⟩ : ∃ b', (a - a.floor)⁻¹ = b' := ⟨_, rfl⟩
        rw [hb'] at p2 hh ⊢
        rw [List.length_cons]
        unfold cfF
        by_cases h3 : (a'.floor : Rat) = a'
        · rw [if_pos h3]; simp; omega
        rw [if_neg h3]
        by_cases h4 : ((a'.floor + 1 : Int) : Rat) ≤ b'
        · rw [if_pos h4]; simp; omega
        rw [if_neg h4, List.length_cons]
        obtain ⟨_, _, _, q1, q2, _, _⟩ := sim_step p1 p2 h3 h4
        have h5 := hh h3 h4
        have := cf_len j k _ _ q1 q2 (by rw [Nat.pow_succ] at h; omega)
        omega
section
variable {na ma nb mb : Bool} {sa ta sb tb : ByteArray} {a b : Rat}
theorem cSimP (ha : Rq na sa ma ta a) (hb : Rq nb sb mb tb b) (h0 : 0 < a) (hab : a ≤ b) {N : Nat} (A : Qb N a) (B : Qb N b) (hN : N ≤ 10000) (W : World) :
    Calls Tryd.prog 28 #[.agg #[.bool na, .string sa, .bool ma, .string ta], .agg #[.bool nb, .string sb, .bool mb, .string tb]] W (RetQE W (simF (a.den + b.den) a b) 0) :=
  callsIn_wide.1 (Simplest_in 3 (Nat.le_refl _) na ma nb mb sa ta sb tb a b N h0 hab A B hN ha hb W _ rfl (by have := cf_len N (a.den + b.den) a b h0 hab B.lo; omega))
theorem Qb.rq {q : Rat} {N : Nat} (h : Qb N q) (hN : N ≤ 10000) : Rq (sgn q.num) (mg q.num.natAbs) false (mg q.den) q := Rq.V h (by omega)
theorem Qb.one : Qb 1 1 := ⟨by decide, by decide⟩
theorem Qb.zero : Qb 1 0 := ⟨by decide, by decide⟩
theorem cZero (W : World) : Calls Tryd.prog 41 #[.agg #[.bool false, .string ⟨#[]⟩], .agg #[.bool false, .string ⟨#[]⟩]] W (RetQ W 0) := by
  have := low_any Rp.zero Rp.zero W
  rwa [Rat.divInt_zero] at this
theorem cmpQ_le {a b : Rat} (h : a ≤ b) : cmpQ a b = -1 ∨ cmpQ a b = 0 := by
  rcases cmpQ_cases a b with ⟨_, e, _⟩ | ⟨_, e, _⟩ | ⟨h2, _, _⟩
  · exact .inl e
  · exact .inr e
  · exact absurd h (Rat.not_le.2 h2)
theorem cmpQ_le2 {a b : Rat} (h : a ≤ b) : cmpQ a b ≤ 0 := by rcases cmpQ_le h with e | e <;> rw [e] <;> decide
theorem cQSim (ha : Rq na sa ma ta a) (hb : Rq nb sb mb tb b) {N : Nat} (A : Qb N a) (B : Qb N b) (hN : N ≤ 10000) (h : a ≤ b) (W : World) :
    Calls Tryd.prog 28 #[.agg #[.bool na, .string sa, .bool ma, .string ta], .agg #[.bool nb, .string sb, .bool mb, .string tb]] W (RetQE W (simQ a b) 0) := by
  have RA := A.rq hN
  have RB := B.rq hN
  have RZ := Qb.zero.rq (by decide)
  have C1 := fun W => cQCmp RA RB W
  have hc : decide ((0 : Int) < cmpQ a b) = false := by rw [cmpQ_gt0]; exact decide_eq_false (Rat.not_lt.2 h)
  unfold simQ
  by_cases h1 : b < 0
  · rw [if_pos h1]
    have C2 := fun W => cQCmp RB RZ W
    rw [cmpQ_neg h1] at C2
    have hp : 0 < -b := by grind
    have hle : -b ≤ -a := by grind
    have S := fun W => cSimP (B.neg.rq hN) (A.neg.rq hN) hp hle B.neg A.neg hN W
    rw [show (-b).den + (-a).den = a.den + b.den from Nat.add_comm _ _] at S
    have X := Qb.simF (k := a.den + b.den) A.neg hp hle (by show b.den + a.den ≤ _; omega)
    have Y := fun W => cQNeg (X.rq hN) W
    exact ratSim_neg _ hc W (cCanQ ha) (cCanQ hb) cZero C1 C2 (cQNeg RB) (cQNeg RA) S Y
  rw [if_neg h1]
  by_cases h2 : a ≤ 0
  · rw [if_pos h2]
    have C2 := fun W => cQCmp RB RZ W
    have C3 := fun W => cQCmp RA RZ W
    exact ratSim_zero _ hc _ (by rw [cmpQ_lt0]; exact decide_eq_false h1) _ (cmpQ_le2 h2) W (cCanQ ha) (cCanQ hb) cZero C1 C2 C3
  · rw [if_neg h2]
    exact cSimP ha hb (Rat.not_le.1 h2) h A B hN W
end
end Go.Proofs.Gv
