import Derived.Test.YtfhncfphphieiaaGreatRefDvKP
set_option maxHeartbeats 20000000
set_option maxRecDepth 100000
set_option linter.unusedSimpArgs false
set_option linter.unusedVariables false
namespace Go.Proofs.Gv
open Go Go.RowKit
theorem rdv_S_ff (na nb : Bool) (sa sb : ByteArray) (a b : Int) (w : World) (ha : Rp na sa a) (hb : Rp nb sb b) (h1 : sa.size ≤ 90000) (h2 : sb.size ≤ 90000) (h0 : b.natAbs ≠ 0) (es1 : sgn a = false) (es2 : sgn b = false) (hT : ((mg a.natAbs).size : Int) < 8) (hT2 : ((mg b.natAbs).size : Int) < 8) :
  Calls Tryz.prog 133 #[.agg #[.bool na, .string sa], .agg #[.bool nb, .string sb]] w (RetDv w ((a.natAbs / b.natAbs : Nat) : Int) ((a.natAbs % b.natAbs : Nat) : Int)) := by
 have H1 := Lib.hid (cCanon ha)
 have H2 := Lib.hid (cCanon hb)
 have hs1 : (mg a.natAbs).size ≤ 90000 := Nat.le_trans (szB sa.size (ha.lt (Nat.le_refl _))) h1
 have hs2 : (mg b.natAbs).size ≤ 90000 := Nat.le_trans (szB sb.size (hb.lt (Nat.le_refl _))) h2
 have hEb := mg_full h0
 have hH0 := Lib.hid h0
 rw [es1] at H1
 rw [es2] at H2
 obtain ⟨Q, hQ⟩ : ∃ Q : Nat, a.natAbs / b.natAbs = Q := ⟨_, rfl⟩
 obtain ⟨R, hR'⟩ : ∃ R : Nat, a.natAbs % b.natAbs = R := ⟨_, rfl⟩
 have la := bv_lt (byt a.natAbs)
 have lb := bv_lt (byt b.natAbs)
 rw [bv_byt, ← size_mgL] at la lb
 have lA : a.natAbs < 72057594037927936 := Nat.lt_of_lt_of_le la (Nat.le_trans (Nat.pow_le_pow_right (by decide) (show (mg a.natAbs).size ≤ 7 by omega)) (by decide))
 have lB : b.natAbs < 72057594037927936 := Nat.lt_of_lt_of_le lb (Nat.le_trans (Nat.pow_le_pow_right (by decide) (show (mg b.natAbs).size ≤ 7 by omega)) (by decide))
 have HV1 := Lib.hid (fun X => show Calls Tryz.prog 77 #[.string (mg a.natAbs)] X (fun e w' => e = .returned (.int .i64 (a.natAbs : Nat)) ∧ Below X.heap.size X w') from by
  have := rsmall_any (mg a.natAbs) X (by omega) (by rw [bv_mg]; omega)
  rw [bv_mg] at this
  exact this.mono fun e w' h => ⟨h.1, h.2 ▸ Below.refl _ _⟩)
 have HV2 := Lib.hid (fun X => show Calls Tryz.prog 77 #[.string (mg b.natAbs)] X (fun e w' => e = .returned (.int .i64 (b.natAbs : Nat)) ∧ Below X.heap.size X w') from by
  have := rsmall_any (mg b.natAbs) X (by omega) (by rw [bv_mg]; omega)
  rw [bv_mg] at this
  exact this.mono fun e w' h => ⟨h.1, h.2 ▸ Below.refl _ _⟩)
 have lQ : Q < 72057594037927936 := by rw [← hQ]; exact Nat.lt_of_le_of_lt (Nat.div_le_self _ _) lA
 have lR : R < 72057594037927936 := by rw [← hR']; exact Nat.lt_of_le_of_lt (Nat.mod_le _ _) lA
 have HV3 := Lib.hid (fun X => show Calls Tryz.prog 46 #[.int .i64 Q] X (fun e w' => e = .returned (.agg #[.bool (sgn (Q : Int)), .string (mg (Q : Int).natAbs)]) ∧ Below X.heap.size X w') from rOf_any (Q : Int) X (by omega) (by omega))
 rw [sgn_nat, nat_abs] at HV3
 have HV4 := Lib.hid (fun X => show Calls Tryz.prog 46 #[.int .i64 R] X (fun e w' => e = .returned (.agg #[.bool (sgn (R : Int)), .string (mg (R : Int).natAbs)]) ∧ Below X.heap.size X w') from rOf_any (R : Int) X (by omega) (by omega))
 rw [sgn_nat, nat_abs] at HV4
 have hq1 := tdiv_nat a.natAbs b.natAbs
 have hq2 := tmod_nat a.natAbs b.natAbs
 rw [hQ] at hq1
 rw [hR'] at hq2
 have hb0 : ¬ ((b.natAbs : Nat) : Int) = 0 := by omega
 have hwQ : wrap64 (Q : Int) = Q := by unfold wrap64; omega
 have hwR : wrap64 (R : Int) = R := by unfold wrap64; omega
 clear la lb lA lB lQ lR
 unfold RetDv
 try rw [sgn_nat, nat_abs]
 clear hs1 hs2 h1 h2 ha hb h0 es1 es2 
 simp only [hQ, hR', sgn_nat, nat_abs]
 clear hQ hR'
 have HL0 := Lib.hid (((((Below.refl w.heap.size w).alloc (Nat.le_refl _) (.cells #[.bool na, .string sa] 36)).alloc (by simp) (.cells #[.bool nb, .string sb] 36)).alloc (by simp; omega) (.cells #[.bool false, .string ⟨#[]⟩] 36)).alloc (by simp; omega) (.cells #[.bool false, .string ⟨#[]⟩] 36))
 have HB0 := Lib.hid ((((Bx.new w w.heap.size na sa rfl).alloc (.cells #[.bool nb, .string sb] 36)).alloc (.cells #[.bool false, .string ⟨#[]⟩] 36)).alloc (.cells #[.bool false, .string ⟨#[]⟩] 36))
 have HB1 := Lib.hid (((Bx.new (w.alloc (.cells #[.bool na, .string sa] 36)) (w.heap.size + 1) nb sb (by simp)).alloc (.cells #[.bool false, .string ⟨#[]⟩] 36)).alloc (.cells #[.bool false, .string ⟨#[]⟩] 36))
 have HB2 := Lib.hid ((Bx.new ((w.alloc (.cells #[.bool na, .string sa] 36)).alloc (.cells #[.bool nb, .string sb] 36)) (w.heap.size + 1 + 1) false ⟨#[]⟩ (by simp)).alloc (.cells #[.bool false, .string ⟨#[]⟩] 36))
 have HB3 := Lib.hid (Bx.new (((w.alloc (.cells #[.bool na, .string sa] 36)).alloc (.cells #[.bool nb, .string sb] 36)).alloc (.cells #[.bool false, .string ⟨#[]⟩] 36)) (w.heap.size + 1 + 1 + 1) false ⟨#[]⟩ (by simp))
 go_enter Tryz.func133, Tryz.ntmps133
 go_upto_region 1 with fail
 obtain ⟨W, hW⟩ : ∃ W, (((w.alloc (.cells #[.bool na, .string sa] 36)).alloc (.cells #[.bool nb, .string sb] 36)).alloc (.cells #[.bool false, .string ⟨#[]⟩] 36)).alloc (.cells #[.bool false, .string ⟨#[]⟩] 36) = W := ⟨_, rfl⟩
 rw [hW] at HL0 HB0 HB1 HB2 HB3 ⊢
 clear hW
 go_cut [] (fun wx => Below w.heap.size w wx ∧ Bx wx (w.heap.size) false (mg a.natAbs) ∧ Bx wx (w.heap.size + 1) false (mg b.natAbs) ∧ Bx wx (w.heap.size + 1 + 1) false ⟨#[]⟩ ∧ Bx wx (w.heap.size + 1 + 1 + 1) false ⟨#[]⟩)
 case first =>
  refine wp_region_front 4 zvI (by kernel_rfl) shI (by kernel_rfl) (by kernel_rfl) (zvI_alloc _ (by kernel_rfl)) (shI_store _ (by kernel_rfl)) ?_
  intro mm BW hm1 hm2 hBW
  haveI := clm_some mm BW
  have fq0 := fun u : Clm mm BW => (HB0.out.clm hm1 hBW u).1
  have fr0 := fun u : Clm mm BW => (HB0.out.clm hm1 hBW u).2
  have fq1 := fun u : Clm mm BW => (HB1.out.clm hm1 hBW u).1
  have fr1 := fun u : Clm mm BW => (HB1.out.clm hm1 hBW u).2
  simp only [frontOf, unmade, List.take_succ_cons, List.take_zero, List.map_cons, List.map_nil]
  iterate 1 (go_big_quiet_step (fail))
  go_big_quiet_step ((go_at_call 45; exact quiet_clm hm2 H1.out _))
  iterate 1 (go_big_quiet_step (fail))
  go_big_quiet_step ((go_at_call 45; exact quiet_clm hm2 H2.out _))
  refine wpQuiet_nil ?_
  refine ⟨List.forall_mem_nil _, ?_⟩
  intro γ w9 hB9 hF
  clear hF hBW this hm1 hm2 fq0 fr0 fq1 fr1
  clear BW mm
  simp only [madesFrom, Facts, patch, List.take_succ_cons, List.take_zero, List.drop_succ_cons, List.drop_zero]
  clear γ
  have hl0 := bstep HL0.out hB9
  have bx0 := HB0.out.below hB9
  have bx1 := HB1.out.below hB9
  have bx2 := HB2.out.below hB9
  have bx3 := HB3.out.below hB9
  clear hB9
  obtain ⟨fx3, fy3, fz3, ft3, _⟩ := id bx0
  obtain ⟨fx6, fy6, fz6, ft6, _⟩ := id bx1
  go_wp2_with fail
  go_meet
  exact ⟨((((hl0.setCell (p := ⟨_, 0, none⟩) (Nat.le_refl _) _).setCell (p := ⟨_, 1, none⟩) (Nat.le_refl _) _).setCell (p := ⟨_, 0, none⟩) (Nat.le_succ _) _).setCell (p := ⟨_, 1, none⟩) (Nat.le_succ _) _), (bx0.set).other (by omega), (bx1.other (by omega)).set, (bx2.other (by omega)).other (by omega), (bx3.other (by omega)).other (by omega)⟩
 case rest =>
  obtain ⟨hl0, bx0, bx1, bx2, bx3⟩ := hcut
  obtain ⟨X1, rfl⟩ : ∃ X, X = wc := ⟨_, rfl⟩
  have HS := Lib.hid (show DvSt w ((X1.alloc (.cells #[.bool false, .string ⟨#[]⟩] 36)).alloc (.cells #[.bool false, .string ⟨#[]⟩] 36)) X1.heap.size false (mg a.natAbs) false (mg b.natAbs) false ⟨#[]⟩ false ⟨#[]⟩ from ⟨(hl0.alloc hl0.size _).alloc (by simp; have := hl0.size; omega) _, (bx0.alloc _).alloc _, (bx1.alloc _).alloc _, (bx2.alloc _).alloc _, (bx3.alloc _).alloc _, (Bx.new X1 X1.heap.size false ⟨#[]⟩ rfl).alloc _, Bx.new (X1.alloc (.cells #[.bool false, .string ⟨#[]⟩] 36)) (X1.heap.size + 1) false ⟨#[]⟩ (by simp), by have := bx3.lt; omega⟩)
  obtain ⟨y0, y1, y2, y3, y4⟩ := id bx1
  clear hl0 HL0 HB0 HB1 HB2 HB3 bx0 bx1 bx2 bx3
  go_upto_region 5 with fail
  obtain ⟨X2, hX2⟩ : ∃ X2, (X1.alloc (.cells #[.bool false, .string ⟨#[]⟩] 36)).alloc (.cells #[.bool false, .string ⟨#[]⟩] 36) = X2 := ⟨_, rfl⟩
  obtain ⟨b7, hb7⟩ : ∃ b7, X1.heap.size = b7 := ⟨_, rfl⟩
  rw [hX2, hb7] at HS
  rw [hX2, hb7]
  clear hX2 hb7 y0 y1 y2 y3 y4
  obtain ⟨x0, x1, x2, x3, x4⟩ := id HS.out.x0
  obtain ⟨y0, y1, y2, y3, y4⟩ := id HS.out.x1
  go_upto_region 6 with fail
  go_cut [9, 10] (fun v9 v10 wx => v9 = .int .i64 (a.natAbs : Nat) ∧ v10 = .int .i64 (b.natAbs : Nat) ∧ DvSt w wx b7 false (mg a.natAbs) false (mg b.natAbs) false ⟨#[]⟩ false ⟨#[]⟩)
  case first =>
   refine wp_region_front 6 zvI (by kernel_rfl) shI (by kernel_rfl) (by kernel_rfl) (zvI_alloc _ (by kernel_rfl)) (shI_store _ (by kernel_rfl)) ?_
   intro mm BW hm1 hm2 hBW
   haveI := clm_some mm BW
   have fq0 := fun u : Clm mm BW => (HS.out.x0.clm hm1 hBW u).1
   have fr0 := fun u : Clm mm BW => (HS.out.x0.clm hm1 hBW u).2
   have fq1 := fun u : Clm mm BW => (HS.out.x1.clm hm1 hBW u).1
   have fr1 := fun u : Clm mm BW => (HS.out.x1.clm hm1 hBW u).2
   simp only [frontOf, unmade, List.take_succ_cons, List.take_zero, List.map_cons, List.map_nil]
   iterate 2 (go_big_quiet_step (fail))
   go_big_quiet_step ((go_at_call 77; exact quiet_clm hm2 HV1.out _))
   iterate 2 (go_big_quiet_step (fail))
   go_big_quiet_step ((go_at_call 77; exact quiet_clm hm2 HV2.out _))
   refine wpQuiet_nil ?_
   refine ⟨List.forall_mem_nil _, ?_⟩
   intro γ w9 hB9 hF
   clear hF hBW this hm1 hm2 fq0 fr0 fq1 fr1
   clear BW mm
   simp only [madesFrom, Facts, patch, List.take_succ_cons, List.take_zero, List.drop_succ_cons, List.drop_zero]
   clear γ
   have HS2 := Lib.hid (HS.out.below hB9)
   clear hB9
   go_wp2_with fail
   go_meet
   exact ⟨rfl, rfl, HS2.out⟩
  case rest =>
   obtain ⟨rfl, rfl, hs⟩ := hcut
   obtain ⟨X3, rfl⟩ : ∃ X, X = wc := ⟨_, rfl⟩
   clear x0 x1 x2 x3 x4 y0 y1 y2 y3 y4 HS
   have HS := Lib.hid hs
   clear hs
   go_upto_region 7 with fail
   go_cut [] (fun wx => DvSt w wx b7 false (mg a.natAbs) false (mg b.natAbs) false (mg Q) false (mg R))
   case first =>
    refine wp_region_front 8 zvI (by kernel_rfl) shI (by kernel_rfl) (by kernel_rfl) (zvI_alloc _ (by kernel_rfl)) (shI_store _ (by kernel_rfl)) ?_
    intro mm BW hm1 hm2 hBW
    haveI := clm_some mm BW
    have fq0 := fun u : Clm mm BW => (HS.out.x0.clm hm1 hBW u).1
    have fr0 := fun u : Clm mm BW => (HS.out.x0.clm hm1 hBW u).2
    simp only [frontOf, unmade, List.take_succ_cons, List.take_zero, List.map_cons, List.map_nil]
    iterate 3 (go_big_quiet_step (fail))
    go_big_quiet_step ((go_at_call 46; exact quiet_clm hm2 HV3.out _))
    iterate 3 (go_big_quiet_step (fail))
    go_big_quiet_step ((go_at_call 46; exact quiet_clm hm2 HV4.out _))
    refine wpQuiet_nil ?_
    refine ⟨List.forall_mem_nil _, ?_⟩
    intro γ w9 hB9 hF
    clear hF hBW this hm1 hm2 fq0 fr0
    clear BW mm
    simp only [madesFrom, Facts, patch, List.take_succ_cons, List.take_zero, List.drop_succ_cons, List.drop_zero]
    clear γ
    have HS2 := Lib.hid (HS.out.below hB9)
    clear hB9
    obtain ⟨x0, x1, x2, x3, x4⟩ := id HS2.out.x7
    obtain ⟨y0, y1, y2, y3, y4⟩ := id HS2.out.x8
    go_wp2_with fail
    go_meet
    exact HS2.out.set7.set8
   case rest =>
    skip
    clear HS
    obtain ⟨X, rfl⟩ : ∃ X, X = wc := ⟨_, rfl⟩
    have HS := Lib.hid hcut
    clear hcut
    obtain ⟨x0, x1, x2, x3, x4⟩ := id HS.out.x0
    obtain ⟨y0, y1, y2, y3, y4⟩ := id HS.out.x1
    obtain ⟨z0, z1, z2, z3, z4⟩ := id HS.out.x7
    obtain ⟨t0, t1, t2, t3, t4⟩ := id HS.out.x8
    go_upto_region 17 with fail
    obtain ⟨u0, u1, u2, u3, u4⟩ := id HS.out.x2
    obtain ⟨r0, r1, r2, r3, r4⟩ := id HS.out.x3
    have nz1 : ¬ w.heap.size + 1 = b7 := by have := HS.out.lt; omega
    have nz2 : ¬ w.heap.size + 1 + 1 = b7 := by have := HS.out.lt; omega
    have nz3 : ¬ w.heap.size + 1 + 1 + 1 = b7 := by have := HS.out.lt; omega
    go_region
    all_goals (
     go_wp2
     refine bodyPost_ret (v := .tuple #[.agg #[.bool false, .string (mg Q)], .agg #[.bool false, .string (mg R)], .int .i64 0]) (by simp [results, Tryz.results133, go_sem, u0, u1, r0, r1]) rfl ?_
     first | exact ⟨rfl, HS.out.res.drew⟩ | exact ⟨rfl, HS.out.res'.drew⟩)
theorem rdv_S_tf0 (na nb : Bool) (sa sb : ByteArray) (a b : Int) (w : World) (ha : Rp na sa a) (hb : Rp nb sb b) (h1 : sa.size ≤ 90000) (h2 : sb.size ≤ 90000) (h0 : b.natAbs ≠ 0) (es1 : sgn a = true) (es2 : sgn b = false) (hR : a.natAbs % b.natAbs = 0) (hT : ((mg a.natAbs).size : Int) < 8) (hT2 : ((mg b.natAbs).size : Int) < 8) :
  Calls Tryz.prog 133 #[.agg #[.bool na, .string sa], .agg #[.bool nb, .string sb]] w (RetDv w (-((a.natAbs / b.natAbs : Nat) : Int)) ((a.natAbs % b.natAbs : Nat) : Int)) := by
 have H1 := Lib.hid (cCanon ha)
 have H2 := Lib.hid (cCanon hb)
 have hs1 : (mg a.natAbs).size ≤ 90000 := Nat.le_trans (szB sa.size (ha.lt (Nat.le_refl _))) h1
 have hs2 : (mg b.natAbs).size ≤ 90000 := Nat.le_trans (szB sb.size (hb.lt (Nat.le_refl _))) h2
 have hEb := mg_full h0
 have hH0 := Lib.hid h0
 rw [es1] at H1
 rw [es2] at H2
 obtain ⟨Q, hQ⟩ : ∃ Q : Nat, a.natAbs / b.natAbs = Q := ⟨_, rfl⟩
 obtain ⟨R, hR'⟩ : ∃ R : Nat, a.natAbs % b.natAbs = R := ⟨_, rfl⟩
 have la := bv_lt (byt a.natAbs)
 have lb := bv_lt (byt b.natAbs)
 rw [bv_byt, ← size_mgL] at la lb
 have lA : a.natAbs < 72057594037927936 := Nat.lt_of_lt_of_le la (Nat.le_trans (Nat.pow_le_pow_right (by decide) (show (mg a.natAbs).size ≤ 7 by omega)) (by decide))
 have lB : b.natAbs < 72057594037927936 := Nat.lt_of_lt_of_le lb (Nat.le_trans (Nat.pow_le_pow_right (by decide) (show (mg b.natAbs).size ≤ 7 by omega)) (by decide))
 have HV1 := Lib.hid (fun X => show Calls Tryz.prog 77 #[.string (mg a.natAbs)] X (fun e w' => e = .returned (.int .i64 (a.natAbs : Nat)) ∧ Below X.heap.size X w') from by
  have := rsmall_any (mg a.natAbs) X (by omega) (by rw [bv_mg]; omega)
  rw [bv_mg] at this
  exact this.mono fun e w' h => ⟨h.1, h.2 ▸ Below.refl _ _⟩)
 have HV2 := Lib.hid (fun X => show Calls Tryz.prog 77 #[.string (mg b.natAbs)] X (fun e w' => e = .returned (.int .i64 (b.natAbs : Nat)) ∧ Below X.heap.size X w') from by
  have := rsmall_any (mg b.natAbs) X (by omega) (by rw [bv_mg]; omega)
  rw [bv_mg] at this
  exact this.mono fun e w' h => ⟨h.1, h.2 ▸ Below.refl _ _⟩)
 have lQ : Q < 72057594037927936 := by rw [← hQ]; exact Nat.lt_of_le_of_lt (Nat.div_le_self _ _) lA
 have lR : R < 72057594037927936 := by rw [← hR']; exact Nat.lt_of_le_of_lt (Nat.mod_le _ _) lA
 have HV3 := Lib.hid (fun X => show Calls Tryz.prog 46 #[.int .i64 Q] X (fun e w' => e = .returned (.agg #[.bool (sgn (Q : Int)), .string (mg (Q : Int).natAbs)]) ∧ Below X.heap.size X w') from rOf_any (Q : Int) X (by omega) (by omega))
 rw [sgn_nat, nat_abs] at HV3
 have HV4 := Lib.hid (fun X => show Calls Tryz.prog 46 #[.int .i64 R] X (fun e w' => e = .returned (.agg #[.bool (sgn (R : Int)), .string (mg (R : Int).natAbs)]) ∧ Below X.heap.size X w') from rOf_any (R : Int) X (by omega) (by omega))
 rw [sgn_nat, nat_abs] at HV4
 have hq1 := tdiv_nat a.natAbs b.natAbs
 have hq2 := tmod_nat a.natAbs b.natAbs
 rw [hQ] at hq1
 rw [hR'] at hq2
 have hb0 : ¬ ((b.natAbs : Nat) : Int) = 0 := by omega
 have hwQ : wrap64 (Q : Int) = Q := by unfold wrap64; omega
 have hwR : wrap64 (R : Int) = R := by unfold wrap64; omega
 clear la lb lA lB lQ lR
 rw [hR'] at hR
 have hEr : (mg R).toList.isEmpty = true := by rw [hR]; exact mg_empty
 have HN7 := Lib.hid (fun X => dvN7 Q X (by rw [← hQ]; exact Nat.le_trans (mg_mono (Nat.div_le_self _ _)) hs1))
 unfold RetDv
 try rw [sgn_nat, nat_abs]
 clear hs1 hs2 h1 h2 ha hb h0 es1 es2 hR 
 simp only [hQ, hR', sgn_nat, nat_abs]
 clear hQ hR'
 obtain ⟨N7, hx⟩ : ∃ x, sgn (-(Q : Int)) = x := ⟨_, rfl⟩
 obtain ⟨S7, hy⟩ : ∃ x, mg (-(Q : Int)).natAbs = x := ⟨_, rfl⟩
 rw [hx, hy] at HN7
 try rw [hx, hy]
 clear hx hy
 have HL0 := Lib.hid (((((Below.refl w.heap.size w).alloc (Nat.le_refl _) (.cells #[.bool na, .string sa] 36)).alloc (by simp) (.cells #[.bool nb, .string sb] 36)).alloc (by simp; omega) (.cells #[.bool false, .string ⟨#[]⟩] 36)).alloc (by simp; omega) (.cells #[.bool false, .string ⟨#[]⟩] 36))
 have HB0 := Lib.hid ((((Bx.new w w.heap.size na sa rfl).alloc (.cells #[.bool nb, .string sb] 36)).alloc (.cells #[.bool false, .string ⟨#[]⟩] 36)).alloc (.cells #[.bool false, .string ⟨#[]⟩] 36))
 have HB1 := Lib.hid (((Bx.new (w.alloc (.cells #[.bool na, .string sa] 36)) (w.heap.size + 1) nb sb (by simp)).alloc (.cells #[.bool false, .string ⟨#[]⟩] 36)).alloc (.cells #[.bool false, .string ⟨#[]⟩] 36))
 have HB2 := Lib.hid ((Bx.new ((w.alloc (.cells #[.bool na, .string sa] 36)).alloc (.cells #[.bool nb, .string sb] 36)) (w.heap.size + 1 + 1) false ⟨#[]⟩ (by simp)).alloc (.cells #[.bool false, .string ⟨#[]⟩] 36))
 have HB3 := Lib.hid (Bx.new (((w.alloc (.cells #[.bool na, .string sa] 36)).alloc (.cells #[.bool nb, .string sb] 36)).alloc (.cells #[.bool false, .string ⟨#[]⟩] 36)) (w.heap.size + 1 + 1 + 1) false ⟨#[]⟩ (by simp))
 go_enter Tryz.func133, Tryz.ntmps133
 go_upto_region 1 with fail
 obtain ⟨W, hW⟩ : ∃ W, (((w.alloc (.cells #[.bool na, .string sa] 36)).alloc (.cells #[.bool nb, .string sb] 36)).alloc (.cells #[.bool false, .string ⟨#[]⟩] 36)).alloc (.cells #[.bool false, .string ⟨#[]⟩] 36) = W := ⟨_, rfl⟩
 rw [hW] at HL0 HB0 HB1 HB2 HB3 ⊢
 clear hW
 go_cut [] (fun wx => Below w.heap.size w wx ∧ Bx wx (w.heap.size) true (mg a.natAbs) ∧ Bx wx (w.heap.size + 1) false (mg b.natAbs) ∧ Bx wx (w.heap.size + 1 + 1) false ⟨#[]⟩ ∧ Bx wx (w.heap.size + 1 + 1 + 1) false ⟨#[]⟩)
 case first =>
  refine wp_region_front 4 zvI (by kernel_rfl) shI (by kernel_rfl) (by kernel_rfl) (zvI_alloc _ (by kernel_rfl)) (shI_store _ (by kernel_rfl)) ?_
  intro mm BW hm1 hm2 hBW
  haveI := clm_some mm BW
  have fq0 := fun u : Clm mm BW => (HB0.out.clm hm1 hBW u).1
  have fr0 := fun u : Clm mm BW => (HB0.out.clm hm1 hBW u).2
  have fq1 := fun u : Clm mm BW => (HB1.out.clm hm1 hBW u).1
  have fr1 := fun u : Clm mm BW => (HB1.out.clm hm1 hBW u).2
  simp only [frontOf, unmade, List.take_succ_cons, List.take_zero, List.map_cons, List.map_nil]
  iterate 1 (go_big_quiet_step (fail))
  go_big_quiet_step ((go_at_call 45; exact quiet_clm hm2 H1.out _))
  iterate 1 (go_big_quiet_step (fail))
  go_big_quiet_step ((go_at_call 45; exact quiet_clm hm2 H2.out _))
  refine wpQuiet_nil ?_
  refine ⟨List.forall_mem_nil _, ?_⟩
  intro γ w9 hB9 hF
  clear hF hBW this hm1 hm2 fq0 fr0 fq1 fr1
  clear BW mm
  simp only [madesFrom, Facts, patch, List.take_succ_cons, List.take_zero, List.drop_succ_cons, List.drop_zero]
  clear γ
  have hl0 := bstep HL0.out hB9
  have bx0 := HB0.out.below hB9
  have bx1 := HB1.out.below hB9
  have bx2 := HB2.out.below hB9
  have bx3 := HB3.out.below hB9
  clear hB9
  obtain ⟨fx3, fy3, fz3, ft3, _⟩ := id bx0
  obtain ⟨fx6, fy6, fz6, ft6, _⟩ := id bx1
  go_wp2_with fail
  go_meet
  exact ⟨((((hl0.setCell (p := ⟨_, 0, none⟩) (Nat.le_refl _) _).setCell (p := ⟨_, 1, none⟩) (Nat.le_refl _) _).setCell (p := ⟨_, 0, none⟩) (Nat.le_succ _) _).setCell (p := ⟨_, 1, none⟩) (Nat.le_succ _) _), (bx0.set).other (by omega), (bx1.other (by omega)).set, (bx2.other (by omega)).other (by omega), (bx3.other (by omega)).other (by omega)⟩
 case rest =>
  obtain ⟨hl0, bx0, bx1, bx2, bx3⟩ := hcut
  obtain ⟨X1, rfl⟩ : ∃ X, X = wc := ⟨_, rfl⟩
  have HS := Lib.hid (show DvSt w ((X1.alloc (.cells #[.bool false, .string ⟨#[]⟩] 36)).alloc (.cells #[.bool false, .string ⟨#[]⟩] 36)) X1.heap.size true (mg a.natAbs) false (mg b.natAbs) false ⟨#[]⟩ false ⟨#[]⟩ from ⟨(hl0.alloc hl0.size _).alloc (by simp; have := hl0.size; omega) _, (bx0.alloc _).alloc _, (bx1.alloc _).alloc _, (bx2.alloc _).alloc _, (bx3.alloc _).alloc _, (Bx.new X1 X1.heap.size false ⟨#[]⟩ rfl).alloc _, Bx.new (X1.alloc (.cells #[.bool false, .string ⟨#[]⟩] 36)) (X1.heap.size + 1) false ⟨#[]⟩ (by simp), by have := bx3.lt; omega⟩)
  obtain ⟨y0, y1, y2, y3, y4⟩ := id bx1
  clear hl0 HL0 HB0 HB1 HB2 HB3 bx0 bx1 bx2 bx3
  go_upto_region 5 with fail
  obtain ⟨X2, hX2⟩ : ∃ X2, (X1.alloc (.cells #[.bool false, .string ⟨#[]⟩] 36)).alloc (.cells #[.bool false, .string ⟨#[]⟩] 36) = X2 := ⟨_, rfl⟩
  obtain ⟨b7, hb7⟩ : ∃ b7, X1.heap.size = b7 := ⟨_, rfl⟩
  rw [hX2, hb7] at HS
  rw [hX2, hb7]
  clear hX2 hb7 y0 y1 y2 y3 y4
  obtain ⟨x0, x1, x2, x3, x4⟩ := id HS.out.x0
  obtain ⟨y0, y1, y2, y3, y4⟩ := id HS.out.x1
  go_upto_region 6 with fail
  go_cut [9, 10] (fun v9 v10 wx => v9 = .int .i64 (a.natAbs : Nat) ∧ v10 = .int .i64 (b.natAbs : Nat) ∧ DvSt w wx b7 true (mg a.natAbs) false (mg b.natAbs) false ⟨#[]⟩ false ⟨#[]⟩)
  case first =>
   refine wp_region_front 6 zvI (by kernel_rfl) shI (by kernel_rfl) (by kernel_rfl) (zvI_alloc _ (by kernel_rfl)) (shI_store _ (by kernel_rfl)) ?_
   intro mm BW hm1 hm2 hBW
   haveI := clm_some mm BW
   have fq0 := fun u : Clm mm BW => (HS.out.x0.clm hm1 hBW u).1
   have fr0 := fun u : Clm mm BW => (HS.out.x0.clm hm1 hBW u).2
   have fq1 := fun u : Clm mm BW => (HS.out.x1.clm hm1 hBW u).1
   have fr1 := fun u : Clm mm BW => (HS.out.x1.clm hm1 hBW u).2
   simp only [frontOf, unmade, List.take_succ_cons, List.take_zero, List.map_cons, List.map_nil]
   iterate 2 (go_big_quiet_step (fail))
   go_big_quiet_step ((go_at_call 77; exact quiet_clm hm2 HV1.out _))
   iterate 2 (go_big_quiet_step (fail))
   go_big_quiet_step ((go_at_call 77; exact quiet_clm hm2 HV2.out _))
   refine wpQuiet_nil ?_
   refine ⟨List.forall_mem_nil _, ?_⟩
   intro γ w9 hB9 hF
   clear hF hBW this hm1 hm2 fq0 fr0 fq1 fr1
   clear BW mm
   simp only [madesFrom, Facts, patch, List.take_succ_cons, List.take_zero, List.drop_succ_cons, List.drop_zero]
   clear γ
   have HS2 := Lib.hid (HS.out.below hB9)
   clear hB9
   go_wp2_with fail
   go_meet
   exact ⟨rfl, rfl, HS2.out⟩
  case rest =>
   obtain ⟨rfl, rfl, hs⟩ := hcut
   obtain ⟨X3, rfl⟩ : ∃ X, X = wc := ⟨_, rfl⟩
   clear x0 x1 x2 x3 x4 y0 y1 y2 y3 y4 HS
   have HS := Lib.hid hs
   clear hs
   go_upto_region 7 with fail
   go_cut [] (fun wx => DvSt w wx b7 true (mg a.natAbs) false (mg b.natAbs) false (mg Q) false (mg R))
   case first =>
    refine wp_region_front 8 zvI (by kernel_rfl) shI (by kernel_rfl) (by kernel_rfl) (zvI_alloc _ (by kernel_rfl)) (shI_store _ (by kernel_rfl)) ?_
    intro mm BW hm1 hm2 hBW
    haveI := clm_some mm BW
    have fq0 := fun u : Clm mm BW => (HS.out.x0.clm hm1 hBW u).1
    have fr0 := fun u : Clm mm BW => (HS.out.x0.clm hm1 hBW u).2
    simp only [frontOf, unmade, List.take_succ_cons, List.take_zero, List.map_cons, List.map_nil]
    iterate 3 (go_big_quiet_step (fail))
    go_big_quiet_step ((go_at_call 46; exact quiet_clm hm2 HV3.out _))
    iterate 3 (go_big_quiet_step (fail))
    go_big_quiet_step ((go_at_call 46; exact quiet_clm hm2 HV4.out _))
    refine wpQuiet_nil ?_
    refine ⟨List.forall_mem_nil _, ?_⟩
    intro γ w9 hB9 hF
    clear hF hBW this hm1 hm2 fq0 fr0
    clear BW mm
    simp only [madesFrom, Facts, patch, List.take_succ_cons, List.take_zero, List.drop_succ_cons, List.drop_zero]
    clear γ
    have HS2 := Lib.hid (HS.out.below hB9)
    clear hB9
    obtain ⟨x0, x1, x2, x3, x4⟩ := id HS2.out.x7
    obtain ⟨y0, y1, y2, y3, y4⟩ := id HS2.out.x8
    go_wp2_with fail
    go_meet
    exact HS2.out.set7.set8
   case rest =>
    skip
    clear HS
    obtain ⟨X, rfl⟩ : ∃ X, X = wc := ⟨_, rfl⟩
    have HS := Lib.hid hcut
    clear hcut
    obtain ⟨x0, x1, x2, x3, x4⟩ := id HS.out.x0
    obtain ⟨y0, y1, y2, y3, y4⟩ := id HS.out.x1
    obtain ⟨z0, z1, z2, z3, z4⟩ := id HS.out.x7
    obtain ⟨t0, t1, t2, t3, t4⟩ := id HS.out.x8
    go_upto_region 11 with fail
    go_cut [] (fun wx => DvSt w wx b7 true (mg a.natAbs) false (mg b.natAbs) N7 S7 false (mg R))
    case first =>
     go_wp2_with (go_at_call 131; refine (HN7.out _).mono ?_; rintro e w8 ⟨rfl, hb⟩; have HS2 := Lib.hid (HS.out.below hb); clear hb; clear x0 x1 x2 x3 x4 y0 y1 y2 y3 y4 z0 z1 z2 z3 z4 t0 t1 t2 t3 t4 HS; obtain ⟨x0, x1, x2, x3, x4⟩ := id HS2.out.x7; obtain ⟨y0, y1, y2, y3, y4⟩ := id HS2.out.x8)
     go_meet
     exact HS2.out.set7
    case rest =>
     clear x0 x1 x2 x3 x4 y0 y1 y2 y3 y4 z0 z1 z2 z3 z4 t0 t1 t2 t3 t4 HS
     obtain ⟨X, rfl⟩ : ∃ X, X = wc := ⟨_, rfl⟩
     have HS := Lib.hid hcut
     clear hcut
     obtain ⟨x0, x1, x2, x3, x4⟩ := id HS.out.x0
     obtain ⟨y0, y1, y2, y3, y4⟩ := id HS.out.x1
     obtain ⟨z0, z1, z2, z3, z4⟩ := id HS.out.x7
     obtain ⟨t0, t1, t2, t3, t4⟩ := id HS.out.x8
     go_upto_region 17 with fail
     obtain ⟨u0, u1, u2, u3, u4⟩ := id HS.out.x2
     obtain ⟨r0, r1, r2, r3, r4⟩ := id HS.out.x3
     have nz1 : ¬ w.heap.size + 1 = b7 := by have := HS.out.lt; omega
     have nz2 : ¬ w.heap.size + 1 + 1 = b7 := by have := HS.out.lt; omega
     have nz3 : ¬ w.heap.size + 1 + 1 + 1 = b7 := by have := HS.out.lt; omega
     go_region
     all_goals (
      go_wp2
      refine bodyPost_ret (v := .tuple #[.agg #[.bool N7, .string S7], .agg #[.bool false, .string (mg R)], .int .i64 0]) (by simp [results, Tryz.results133, go_sem, u0, u1, r0, r1]) rfl ?_
      first | exact ⟨rfl, HS.out.res.drew⟩ | exact ⟨rfl, HS.out.res'.drew⟩)
end Go.Proofs.Gv
