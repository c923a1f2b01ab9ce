import Derived.Test.YtfhncfphphieiaaGreatRefDvS
set_option maxHeartbeats 20000000
set_option maxRecDepth 100000
set_option linter.unusedSimpArgs false
set_option linter.unusedVariables false
namespace Go.Proofs.Gv
open Go Go.RowKit
theorem rdv_L_ff (na nb : Bool) (sa sb : ByteArray) (a b : Int) (w : World) (ha : Rp na sa a) (hb : Rp nb sb b) (h1 : sa.size ≤ 90000) (h2 : sb.size ≤ 90000) (h0 : b.natAbs ≠ 0) (es1 : sgn a = false) (es2 : sgn b = false) (hT : decide (((mg a.natAbs).size : Int) < 8) = false ∨ (((mg a.natAbs).size : Int) < 8 ∧ decide (((mg b.natAbs).size : Int) < 8) = false)) :
  Calls Tryz.prog 133 #[.agg #[.bool na, .string sa], .agg #[.bool nb, .string sb]] w (RetDv w ((a.natAbs / b.natAbs : Nat) : Int) ((a.natAbs % b.natAbs : Nat) : Int)) := by
 have H1 := Lib.hid (cCanon ha)
 have H2 := Lib.hid (cCanon hb)
 have hs1 : (mg a.natAbs).size ≤ 90000 := Nat.le_trans (szB sa.size (ha.lt (Nat.le_refl _))) h1
 have hs2 : (mg b.natAbs).size ≤ 90000 := Nat.le_trans (szB sb.size (hb.lt (Nat.le_refl _))) h2
 have hEb := mg_full h0
 have hH0 := Lib.hid h0
 rw [es1] at H1
 rw [es2] at H2
 obtain ⟨Q, hQ⟩ : ∃ Q : Nat, a.natAbs / b.natAbs = Q := ⟨_, rfl⟩
 obtain ⟨R, hR'⟩ : ∃ R : Nat, a.natAbs % b.natAbs = R := ⟨_, rfl⟩
 have HM := Lib.hid (fun X => rdivMag_any a.natAbs b.natAbs X (by omega) hs1 hs2)
 rw [hQ, hR'] at HM
 have HT := Lib.hid hT
 clear hT
 unfold RetDv
 try rw [sgn_nat, nat_abs]
 clear hs1 hs2 h1 h2 ha hb h0 es1 es2 
 simp only [hQ, hR', sgn_nat, nat_abs]
 clear hQ hR'
 have HL0 := Lib.hid (((((Below.refl w.heap.size w).alloc (Nat.le_refl _) (.cells #[.bool na, .string sa] 36)).alloc (by simp) (.cells #[.bool nb, .string sb] 36)).alloc (by simp; omega) (.cells #[.bool false, .string ⟨#[]⟩] 36)).alloc (by simp; omega) (.cells #[.bool false, .string ⟨#[]⟩] 36))
 have HB0 := Lib.hid ((((Bx.new w w.heap.size na sa rfl).alloc (.cells #[.bool nb, .string sb] 36)).alloc (.cells #[.bool false, .string ⟨#[]⟩] 36)).alloc (.cells #[.bool false, .string ⟨#[]⟩] 36))
 have HB1 := Lib.hid (((Bx.new (w.alloc (.cells #[.bool na, .string sa] 36)) (w.heap.size + 1) nb sb (by simp)).alloc (.cells #[.bool false, .string ⟨#[]⟩] 36)).alloc (.cells #[.bool false, .string ⟨#[]⟩] 36))
 have HB2 := Lib.hid ((Bx.new ((w.alloc (.cells #[.bool na, .string sa] 36)).alloc (.cells #[.bool nb, .string sb] 36)) (w.heap.size + 1 + 1) false ⟨#[]⟩ (by simp)).alloc (.cells #[.bool false, .string ⟨#[]⟩] 36))
 have HB3 := Lib.hid (Bx.new (((w.alloc (.cells #[.bool na, .string sa] 36)).alloc (.cells #[.bool nb, .string sb] 36)).alloc (.cells #[.bool false, .string ⟨#[]⟩] 36)) (w.heap.size + 1 + 1 + 1) false ⟨#[]⟩ (by simp))
 go_enter Tryz.func133, Tryz.ntmps133
 go_upto_region 1 with fail
 obtain ⟨W, hW⟩ : ∃ W, (((w.alloc (.cells #[.bool na, .string sa] 36)).alloc (.cells #[.bool nb, .string sb] 36)).alloc (.cells #[.bool false, .string ⟨#[]⟩] 36)).alloc (.cells #[.bool false, .string ⟨#[]⟩] 36) = W := ⟨_, rfl⟩
 rw [hW] at HL0 HB0 HB1 HB2 HB3 ⊢
 clear hW
 go_cut [] (fun wx => Below w.heap.size w wx ∧ Bx wx (w.heap.size) false (mg a.natAbs) ∧ Bx wx (w.heap.size + 1) false (mg b.natAbs) ∧ Bx wx (w.heap.size + 1 + 1) false ⟨#[]⟩ ∧ Bx wx (w.heap.size + 1 + 1 + 1) false ⟨#[]⟩)
 case first =>
  refine wp_region_front 4 zvI (by kernel_rfl) shI (by kernel_rfl) (by kernel_rfl) (zvI_alloc _ (by kernel_rfl)) (shI_store _ (by kernel_rfl)) ?_
  intro mm BW hm1 hm2 hBW
  haveI := clm_some mm BW
  have fq0 := fun u : Clm mm BW => (HB0.out.clm hm1 hBW u).1
  have fr0 := fun u : Clm mm BW => (HB0.out.clm hm1 hBW u).2
  have fq1 := fun u : Clm mm BW => (HB1.out.clm hm1 hBW u).1
  have fr1 := fun u : Clm mm BW => (HB1.out.clm hm1 hBW u).2
  simp only [frontOf, unmade, List.take_succ_cons, List.take_zero, List.map_cons, List.map_nil]
  iterate 1 (go_big_quiet_step (fail))
  go_big_quiet_step ((go_at_call 45; exact quiet_clm hm2 H1.out _))
  iterate 1 (go_big_quiet_step (fail))
  go_big_quiet_step ((go_at_call 45; exact quiet_clm hm2 H2.out _))
  refine wpQuiet_nil ?_
  refine ⟨List.forall_mem_nil _, ?_⟩
  intro γ w9 hB9 hF
  clear hF hBW this hm1 hm2 fq0 fr0 fq1 fr1
  clear BW mm
  simp only [madesFrom, Facts, patch, List.take_succ_cons, List.take_zero, List.drop_succ_cons, List.drop_zero]
  clear γ
  have hl0 := bstep HL0.out hB9
  have bx0 := HB0.out.below hB9
  have bx1 := HB1.out.below hB9
  have bx2 := HB2.out.below hB9
  have bx3 := HB3.out.below hB9
  clear hB9
  obtain ⟨fx3, fy3, fz3, ft3, _⟩ := id bx0
  obtain ⟨fx6, fy6, fz6, ft6, _⟩ := id bx1
  go_wp2_with fail
  go_meet
  exact ⟨((((hl0.setCell (p := ⟨_, 0, none⟩) (Nat.le_refl _) _).setCell (p := ⟨_, 1, none⟩) (Nat.le_refl _) _).setCell (p := ⟨_, 0, none⟩) (Nat.le_succ _) _).setCell (p := ⟨_, 1, none⟩) (Nat.le_succ _) _), (bx0.set).other (by omega), (bx1.other (by omega)).set, (bx2.other (by omega)).other (by omega), (bx3.other (by omega)).other (by omega)⟩
 case rest =>
  obtain ⟨hl0, bx0, bx1, bx2, bx3⟩ := hcut
  obtain ⟨X1, rfl⟩ : ∃ X, X = wc := ⟨_, rfl⟩
  have HS := Lib.hid (show DvSt w ((X1.alloc (.cells #[.bool false, .string ⟨#[]⟩] 36)).alloc (.cells #[.bool false, .string ⟨#[]⟩] 36)) X1.heap.size false (mg a.natAbs) false (mg b.natAbs) false ⟨#[]⟩ false ⟨#[]⟩ from ⟨(hl0.alloc hl0.size _).alloc (by simp; have := hl0.size; omega) _, (bx0.alloc _).alloc _, (bx1.alloc _).alloc _, (bx2.alloc _).alloc _, (bx3.alloc _).alloc _, (Bx.new X1 X1.heap.size false ⟨#[]⟩ rfl).alloc _, Bx.new (X1.alloc (.cells #[.bool false, .string ⟨#[]⟩] 36)) (X1.heap.size + 1) false ⟨#[]⟩ (by simp), by have := bx3.lt; omega⟩)
  obtain ⟨y0, y1, y2, y3, y4⟩ := id bx1
  clear hl0 HL0 HB0 HB1 HB2 HB3 bx0 bx1 bx2 bx3
  go_upto_region 5 with fail
  obtain ⟨X2, hX2⟩ : ∃ X2, (X1.alloc (.cells #[.bool false, .string ⟨#[]⟩] 36)).alloc (.cells #[.bool false, .string ⟨#[]⟩] 36) = X2 := ⟨_, rfl⟩
  obtain ⟨b7, hb7⟩ : ∃ b7, X1.heap.size = b7 := ⟨_, rfl⟩
  rw [hX2, hb7] at HS
  rw [hX2, hb7]
  clear hX2 hb7 y0 y1 y2 y3 y4
  obtain ⟨x0, x1, x2, x3, x4⟩ := id HS.out.x0
  obtain ⟨y0, y1, y2, y3, y4⟩ := id HS.out.x1
  rcases HT.out with hT | ⟨hT, hT2⟩
  all_goals (
   go_upto_region 9 with (go_at_call 134; refine (HM.out _).mono ?_; rintro e w8 ⟨rfl, hb⟩; have HS2 := Lib.hid (HS.out.below hb); clear hb)
   clear x0 x1 x2 x3 x4 y0 y1 y2 y3 y4 HS
   obtain ⟨x0, x1, x2, x3, x4⟩ := id HS2.out.x7
   obtain ⟨y0, y1, y2, y3, y4⟩ := id HS2.out.x8
   go_cut [] (fun wx => DvSt w wx b7 false (mg a.natAbs) false (mg b.natAbs) false (mg Q) false (mg R))
   case first =>
    go_wp2_with fail
    go_meet
    exact HS2.out.set7.set8
   case rest =>
    clear x0 x1 x2 x3 x4 y0 y1 y2 y3 y4
    clear HS2
    obtain ⟨X, rfl⟩ : ∃ X, X = wc := ⟨_, rfl⟩
    have HS := Lib.hid hcut
    clear hcut
    obtain ⟨x0, x1, x2, x3, x4⟩ := id HS.out.x0
    obtain ⟨y0, y1, y2, y3, y4⟩ := id HS.out.x1
    obtain ⟨z0, z1, z2, z3, z4⟩ := id HS.out.x7
    obtain ⟨t0, t1, t2, t3, t4⟩ := id HS.out.x8
    go_upto_region 17 with fail
    obtain ⟨u0, u1, u2, u3, u4⟩ := id HS.out.x2
    obtain ⟨r0, r1, r2, r3, r4⟩ := id HS.out.x3
    have nz1 : ¬ w.heap.size + 1 = b7 := by have := HS.out.lt; omega
    have nz2 : ¬ w.heap.size + 1 + 1 = b7 := by have := HS.out.lt; omega
    have nz3 : ¬ w.heap.size + 1 + 1 + 1 = b7 := by have := HS.out.lt; omega
    go_region
    all_goals (
     go_wp2
     refine bodyPost_ret (v := .tuple #[.agg #[.bool false, .string (mg Q)], .agg #[.bool false, .string (mg R)], .int .i64 0]) (by simp [results, Tryz.results133, go_sem, u0, u1, r0, r1]) rfl ?_
     first | exact ⟨rfl, HS.out.res.drew⟩ | exact ⟨rfl, HS.out.res'.drew⟩))
theorem rdv_L_tf0 (na nb : Bool) (sa sb : ByteArray) (a b : Int) (w : World) (ha : Rp na sa a) (hb : Rp nb sb b) (h1 : sa.size ≤ 90000) (h2 : sb.size ≤ 90000) (h0 : b.natAbs ≠ 0) (es1 : sgn a = true) (es2 : sgn b = false) (hR : a.natAbs % b.natAbs = 0) (hT : decide (((mg a.natAbs).size : Int) < 8) = false ∨ (((mg a.natAbs).size : Int) < 8 ∧ decide (((mg b.natAbs).size : Int) < 8) = false)) :
  Calls Tryz.prog 133 #[.agg #[.bool na, .string sa], .agg #[.bool nb, .string sb]] w (RetDv w (-((a.natAbs / b.natAbs : Nat) : Int)) ((a.natAbs % b.natAbs : Nat) : Int)) := by
 have H1 := Lib.hid (cCanon ha)
 have H2 := Lib.hid (cCanon hb)
 have hs1 : (mg a.natAbs).size ≤ 90000 := Nat.le_trans (szB sa.size (ha.lt (Nat.le_refl _))) h1
 have hs2 : (mg b.natAbs).size ≤ 90000 := Nat.le_trans (szB sb.size (hb.lt (Nat.le_refl _))) h2
 have hEb := mg_full h0
 have hH0 := Lib.hid h0
 rw [es1] at H1
 rw [es2] at H2
 obtain ⟨Q, hQ⟩ : ∃ Q : Nat, a.natAbs / b.natAbs = Q := ⟨_, rfl⟩
 obtain ⟨R, hR'⟩ : ∃ R : Nat, a.natAbs % b.natAbs = R := ⟨_, rfl⟩
 have HM := Lib.hid (fun X => rdivMag_any a.natAbs b.natAbs X (by omega) hs1 hs2)
 rw [hQ, hR'] at HM
 have HT := Lib.hid hT
 clear hT
 rw [hR'] at hR
 have hEr : (mg R).toList.isEmpty = true := by rw [hR]; exact mg_empty
 have HN7 := Lib.hid (fun X => dvN7 Q X (by rw [← hQ]; exact Nat.le_trans (mg_mono (Nat.div_le_self _ _)) hs1))
 unfold RetDv
 try rw [sgn_nat, nat_abs]
 clear hs1 hs2 h1 h2 ha hb h0 es1 es2 hR 
 simp only [hQ, hR', sgn_nat, nat_abs]
 clear hQ hR'
 obtain ⟨N7, hx⟩ : ∃ x, sgn (-(Q : Int)) = x := ⟨_, rfl⟩
 obtain ⟨S7, hy⟩ : ∃ x, mg (-(Q : Int)).natAbs = x := ⟨_, rfl⟩
 rw [hx, hy] at HN7
 try rw [hx, hy]
 clear hx hy
 have HL0 := Lib.hid (((((Below.refl w.heap.size w).alloc (Nat.le_refl _) (.cells #[.bool na, .string sa] 36)).alloc (by simp) (.cells #[.bool nb, .string sb] 36)).alloc (by simp; omega) (.cells #[.bool false, .string ⟨#[]⟩] 36)).alloc (by simp; omega) (.cells #[.bool false, .string ⟨#[]⟩] 36))
 have HB0 := Lib.hid ((((Bx.new w w.heap.size na sa rfl).alloc (.cells #[.bool nb, .string sb] 36)).alloc (.cells #[.bool false, .string ⟨#[]⟩] 36)).alloc (.cells #[.bool false, .string ⟨#[]⟩] 36))
 have HB1 := Lib.hid (((Bx.new (w.alloc (.cells #[.bool na, .string sa] 36)) (w.heap.size + 1) nb sb (by simp)).alloc (.cells #[.bool false, .string ⟨#[]⟩] 36)).alloc (.cells #[.bool false, .string ⟨#[]⟩] 36))
 have HB2 := Lib.hid ((Bx.new ((w.alloc (.cells #[.bool na, .string sa] 36)).alloc (.cells #[.bool nb, .string sb] 36)) (w.heap.size + 1 + 1) false ⟨#[]⟩ (by simp)).alloc (.cells #[.bool false, .string ⟨#[]⟩] 36))
 have HB3 := Lib.hid (Bx.new (((w.alloc (.cells #[.bool na, .string sa] 36)).alloc (.cells #[.bool nb, .string sb] 36)).alloc (.cells #[.bool false, .string ⟨#[]⟩] 36)) (w.heap.size + 1 + 1 + 1) false ⟨#[]⟩ (by simp))
 go_enter Tryz.func133, Tryz.ntmps133
 go_upto_region 1 with fail
 obtain ⟨W, hW⟩ : ∃ W, (((w.alloc (.cells #[.bool na, .string sa] 36)).alloc (.cells #[.bool nb, .string sb] 36)).alloc (.cells #[.bool false, .string ⟨#[]⟩] 36)).alloc (.cells #[.bool false, .string ⟨#[]⟩] 36) = W := ⟨_, rfl⟩
 rw [hW] at HL0 HB0 HB1 HB2 HB3 ⊢
 clear hW
 go_cut [] (fun wx => Below w.heap.size w wx ∧ Bx wx (w.heap.size) true (mg a.natAbs) ∧ Bx wx (w.heap.size + 1) false (mg b.natAbs) ∧ Bx wx (w.heap.size + 1 + 1) false ⟨#[]⟩ ∧ Bx wx (w.heap.size + 1 + 1 + 1) false ⟨#[]⟩)
 case first =>
  refine wp_region_front 4 zvI (by kernel_rfl) shI (by kernel_rfl) (by kernel_rfl) (zvI_alloc _ (by kernel_rfl)) (shI_store _ (by kernel_rfl)) ?_
  intro mm BW hm1 hm2 hBW
  haveI := clm_some mm BW
  have fq0 := fun u : Clm mm BW => (HB0.out.clm hm1 hBW u).1
  have fr0 := fun u : Clm mm BW => (HB0.out.clm hm1 hBW u).2
  have fq1 := fun u : Clm mm BW => (HB1.out.clm hm1 hBW u).1
  have fr1 := fun u : Clm mm BW => (HB1.out.clm hm1 hBW u).2
  simp only [frontOf, unmade, List.take_succ_cons, List.take_zero, List.map_cons, List.map_nil]
  iterate 1 (go_big_quiet_step (fail))
  go_big_quiet_step ((go_at_call 45; exact quiet_clm hm2 H1.out _))
  iterate 1 (go_big_quiet_step (fail))
  go_big_quiet_step ((go_at_call 45; exact quiet_clm hm2 H2.out _))
  refine wpQuiet_nil ?_
  refine ⟨List.forall_mem_nil _, ?_⟩
  intro γ w9 hB9 hF
  clear hF hBW this hm1 hm2 fq0 fr0 fq1 fr1
  clear BW mm
  simp only [madesFrom, Facts, patch, List.take_succ_cons, List.take_zero, List.drop_succ_cons, List.drop_zero]
  clear γ
  have hl0 := bstep HL0.out hB9
  have bx0 := HB0.out.below hB9
  have bx1 := HB1.out.below hB9
  have bx2 := HB2.out.below hB9
  have bx3 := HB3.out.below hB9
  clear hB9
  obtain ⟨fx3, fy3, fz3, ft3, _⟩ := id bx0
  obtain ⟨fx6, fy6, fz6, ft6, _⟩ := id bx1
  go_wp2_with fail
  go_meet
  exact ⟨((((hl0.setCell (p := ⟨_, 0, none⟩) (Nat.le_refl _) _).setCell (p := ⟨_, 1, none⟩) (Nat.le_refl _) _).setCell (p := ⟨_, 0, none⟩) (Nat.le_succ _) _).setCell (p := ⟨_, 1, none⟩) (Nat.le_succ _) _), (bx0.set).other (by omega), (bx1.other (by omega)).set, (bx2.other (by omega)).other (by omega), (bx3.other (by omega)).other (by omega)⟩
 case rest =>
  obtain ⟨hl0, bx0, bx1, bx2, bx3⟩ := hcut
  obtain ⟨X1, rfl⟩ : ∃ X, X = wc := ⟨_, rfl⟩
  have HS := Lib.hid (show DvSt w ((X1.alloc (.cells #[.bool false, .string ⟨#[]⟩] 36)).alloc (.cells #[.bool false, .string ⟨#[]⟩] 36)) X1.heap.size true (mg a.natAbs) false (mg b.natAbs) false ⟨#[]⟩ false ⟨#[]⟩ from ⟨(hl0.alloc hl0.size _).alloc (by simp; have := hl0.size; omega) _, (bx0.alloc _).alloc _, (bx1.alloc _).alloc _, (bx2.alloc _).alloc _, (bx3.alloc _).alloc _, (Bx.new X1 X1.heap.size false ⟨#[]⟩ rfl).alloc _, Bx.new (X1.alloc (.cells #[.bool false, .string ⟨#[]⟩] 36)) (X1.heap.size + 1) false ⟨#[]⟩ (by simp), by have := bx3.lt; omega⟩)
  obtain ⟨y0, y1, y2, y3, y4⟩ := id bx1
  clear hl0 HL0 HB0 HB1 HB2 HB3 bx0 bx1 bx2 bx3
  go_upto_region 5 with fail
  obtain ⟨X2, hX2⟩ : ∃ X2, (X1.alloc (.cells #[.bool false, .string ⟨#[]⟩] 36)).alloc (.cells #[.bool false, .string ⟨#[]⟩] 36) = X2 := ⟨_, rfl⟩
  obtain ⟨b7, hb7⟩ : ∃ b7, X1.heap.size = b7 := ⟨_, rfl⟩
  rw [hX2, hb7] at HS
  rw [hX2, hb7]
  clear hX2 hb7 y0 y1 y2 y3 y4
  obtain ⟨x0, x1, x2, x3, x4⟩ := id HS.out.x0
  obtain ⟨y0, y1, y2, y3, y4⟩ := id HS.out.x1
  rcases HT.out with hT | ⟨hT, hT2⟩
  all_goals (
   go_upto_region 9 with (go_at_call 134; refine (HM.out _).mono ?_; rintro e w8 ⟨rfl, hb⟩; have HS2 := Lib.hid (HS.out.below hb); clear hb)
   clear x0 x1 x2 x3 x4 y0 y1 y2 y3 y4 HS
   obtain ⟨x0, x1, x2, x3, x4⟩ := id HS2.out.x7
   obtain ⟨y0, y1, y2, y3, y4⟩ := id HS2.out.x8
   go_cut [] (fun wx => DvSt w wx b7 true (mg a.natAbs) false (mg b.natAbs) false (mg Q) false (mg R))
   case first =>
    go_wp2_with fail
    go_meet
    exact HS2.out.set7.set8
   case rest =>
    clear x0 x1 x2 x3 x4 y0 y1 y2 y3 y4
    clear HS2
    obtain ⟨X, rfl⟩ : ∃ X, X = wc := ⟨_, rfl⟩
    have HS := Lib.hid hcut
    clear hcut
    obtain ⟨x0, x1, x2, x3, x4⟩ := id HS.out.x0
    obtain ⟨y0, y1, y2, y3, y4⟩ := id HS.out.x1
    obtain ⟨z0, z1, z2, z3, z4⟩ := id HS.out.x7
    obtain ⟨t0, t1, t2, t3, t4⟩ := id HS.out.x8
    go_upto_region 11 with fail
    go_cut [] (fun wx => DvSt w wx b7 true (mg a.natAbs) false (mg b.natAbs) N7 S7 false (mg R))
    case first =>
     go_wp2_with (go_at_call 131; refine (HN7.out _).mono ?_; rintro e w8 ⟨rfl, hb⟩; have HS2 := Lib.hid (HS.out.below hb); clear hb; clear x0 x1 x2 x3 x4 y0 y1 y2 y3 y4 z0 z1 z2 z3 z4 t0 t1 t2 t3 t4 HS; obtain ⟨x0, x1, x2, x3, x4⟩ := id HS2.out.x7; obtain ⟨y0, y1, y2, y3, y4⟩ := id HS2.out.x8)
     go_meet
     exact HS2.out.set7
    case rest =>
     clear x0 x1 x2 x3 x4 y0 y1 y2 y3 y4 z0 z1 z2 z3 z4 t0 t1 t2 t3 t4 HS
     obtain ⟨X, rfl⟩ : ∃ X, X = wc := ⟨_, rfl⟩
     have HS := Lib.hid hcut
     clear hcut
     obtain ⟨x0, x1, x2, x3, x4⟩ := id HS.out.x0
     obtain ⟨y0, y1, y2, y3, y4⟩ := id HS.out.x1
     obtain ⟨z0, z1, z2, z3, z4⟩ := id HS.out.x7
     obtain ⟨t0, t1, t2, t3, t4⟩ := id HS.out.x8
     go_upto_region 17 with fail
     obtain ⟨u0, u1, u2, u3, u4⟩ := id HS.out.x2
     obtain ⟨r0, r1, r2, r3, r4⟩ := id HS.out.x3
     have nz1 : ¬ w.heap.size + 1 = b7 := by have := HS.out.lt; omega
     have nz2 : ¬ w.heap.size + 1 + 1 = b7 := by have := HS.out.lt; omega
     have nz3 : ¬ w.heap.size + 1 + 1 + 1 = b7 := by have := HS.out.lt; omega
     go_region
     all_goals (
      go_wp2
      refine bodyPost_ret (v := .tuple #[.agg #[.bool N7, .string S7], .agg #[.bool false, .string (mg R)], .int .i64 0]) (by simp [results, Tryz.results133, go_sem, u0, u1, r0, r1]) rfl ?_
      first | exact ⟨rfl, HS.out.res.drew⟩ | exact ⟨rfl, HS.out.res'.drew⟩))
end Go.Proofs.Gv
namespace Go.Proofs.Gv
open Go Go.RowKit
section
variable {A B Q R : Nat}
theorem dsp_eq (e : B * Q + R = A) : (A : Int) = (Q : Int) * (B : Int) + R := by
 rw [← e, Nat.mul_comm]; push_cast; rfl
theorem dsp_pp (e : B * Q + R = A) (hl : R < B) : DivSpec (A : Int) (B : Int) Q R := by
 have := dsp_eq e
 exact ⟨this, .inl ⟨by omega, by omega⟩⟩
theorem dsp_np0 (e : B * Q + R = A) (hl : R < B) (h : R = 0) : DivSpec (-(A : Int)) (B : Int) (-(Q : Int)) (R : Int) := by
 have := dsp_eq e
 exact ⟨by rw [Int.neg_mul]; omega, .inl ⟨by omega, by omega⟩⟩
end
theorem dsp_of {a b a' b' q r : Int} (e1 : a = a') (e2 : b = b') (h : DivSpec a' b' q r) : DivSpec a b q r := by rw [e1, e2]; exact h
theorem sgn_f {a : Int} (h : sgn a = false) : a = (a.natAbs : Int) := by unfold sgn at h; have := of_decide_eq_false h; omega
theorem sgn_t {a : Int} (h : sgn a = true) : a = -(a.natAbs : Int) := by unfold sgn at h; have := of_decide_eq_true h; omega
end Go.Proofs.Gv
namespace Go.Proofs.Gv
open Go Go.RowKit
theorem gtmod_nat (x y : Nat) : Int.tmod (x : Int) (y : Int) = ((x % y : Nat) : Int) := rfl
theorem gcd_next (x y : Nat) : Nat.gcd y (x % y) = Nat.gcd x y := by
 rw [Nat.gcd_comm y, ← Nat.gcd_rec, Nat.gcd_comm]
theorem sz7 {x : Nat} (h : (mg x).size ≤ 7) : x < 72057594037927936 := by
 have la := bv_lt (byt x)
 rw [bv_byt, ← size_mgL] at la
 exact Nat.lt_of_lt_of_le la (Nat.le_trans (Nat.pow_le_pow_right (by decide) h) (by decide))
theorem gcdSm (x : Nat) (h : (mg x).size ≤ 7) (X : World) : Calls Tryz.prog 77 #[.string (mg x)] X fun e w' => e = .returned (.int .i64 (x : Nat)) ∧ X = w' := by
 have := rsmall_any (mg x) X (by omega) (by rw [bv_mg]; have := sz7 h; omega)
 rwa [bv_mg] at this
theorem gcdOf (x : Nat) (h : x < 72057594037927936) (X : World) : Calls Tryz.prog 46 #[.int .i64 x] X fun e w' => e = .returned (.agg #[.bool false, .string (mg x)]) ∧ Below X.heap.size X w' := by
 have := rOf_any (x : Int) X (by omega) (by omega)
 unfold RetI at this
 rwa [show sgn (x : Int) = false from decide_eq_false (by omega), Int.natAbs_natCast] at this
theorem ret_gcd {w wr : World} {G x : Nat} (h : x = G) (hb : Below w.heap.size w wr) : RetI w (G : Nat) (.returned (.agg #[.bool false, .string (mg x)])) wr := by
 subst h
 exact ⟨by rw [show sgn (x : Int) = false from decide_eq_false (by omega), Int.natAbs_natCast], hb⟩
theorem rGcd_any (na nb : Bool) (sa sb : ByteArray) (w : World) (ha : sa.size ≤ 90000) (hb : sb.size ≤ 90000) :
  Calls Tryz.prog 132 #[.agg #[.bool na, .string sa], .agg #[.bool nb, .string sb]] w (RetI w (Nat.gcd (bv sa.data.toList) (bv sb.data.toList) : Nat)) := by
 have HT1 := Lib.hid (fun X => (rtrim_any sa X (by omega)).mono fun e w' h => (⟨h.1, h.2 ▸ Below.refl _ _⟩ : e = .returned (.string (mg (bv sa.data.toList))) ∧ Below X.heap.size X w'))
 have HT2 := Lib.hid (fun X => (rtrim_any sb X (by omega)).mono fun e w' h => (⟨h.1, h.2 ▸ Below.refl _ _⟩ : e = .returned (.string (mg (bv sb.data.toList))) ∧ Below X.heap.size X w'))
 have hs1 : (mg (bv sa.data.toList)).size ≤ 90000 := Nat.le_trans (size_mg (by have := bv_lt sa.data.toList; simpa using this)) ha
 have hs2 : (mg (bv sb.data.toList)).size ≤ 90000 := Nat.le_trans (size_mg (by have := bv_lt sb.data.toList; simpa using this)) hb
 obtain ⟨x0, hx0⟩ : ∃ x, bv sa.data.toList = x := ⟨_, rfl⟩
 obtain ⟨y0, hy0⟩ : ∃ y, bv sb.data.toList = y := ⟨_, rfl⟩
 obtain ⟨G, hG⟩ : ∃ G, Nat.gcd x0 y0 = G := ⟨_, rfl⟩
 rw [hx0] at HT1 hs1 ⊢
 rw [hy0] at HT2 hs2 ⊢
 rw [hG]
 have HG := Lib.hid hG
 have HS1 := Lib.hid hs1
 have HS2 := Lib.hid hs2
 clear hx0 hy0 hG hs1 hs2 ha hb
 have HL0 := Lib.hid ((((Below.refl w.heap.size w).alloc (Nat.le_refl _) (.cells #[.bool na, .string sa] 36)).alloc (by simp) (.cells #[.bool nb, .string sb] 36)).alloc (by simp; omega) (.cells #[.bool false, .string ⟨#[]⟩] 36))
 have HB0 := Lib.hid (((Bx.new w w.heap.size na sa rfl).alloc (.cells #[.bool nb, .string sb] 36)).alloc (.cells #[.bool false, .string ⟨#[]⟩] 36))
 have HB1 := Lib.hid ((Bx.new (w.alloc (.cells #[.bool na, .string sa] 36)) (w.heap.size + 1) nb sb (by simp)).alloc (.cells #[.bool false, .string ⟨#[]⟩] 36))
 have HB2 := Lib.hid (Bx.new ((w.alloc (.cells #[.bool na, .string sa] 36)).alloc (.cells #[.bool nb, .string sb] 36)) (w.heap.size + 1 + 1) false ⟨#[]⟩ (by simp))
 go_enter Tryz.func132, Tryz.ntmps132
 go_upto_region 1 with fail
 obtain ⟨W, hW⟩ : ∃ W, ((w.alloc (.cells #[.bool na, .string sa] 36)).alloc (.cells #[.bool nb, .string sb] 36)).alloc (.cells #[.bool false, .string ⟨#[]⟩] 36) = W := ⟨_, rfl⟩
 rw [hW] at HL0 HB0 HB1 HB2 ⊢
 clear hW
 haveI := cls_some W
 have fq0 : ∀ u : Cl W, u.x.cell? ⟨w.heap.size, 1, none⟩ = some (.string sa) := fun u => (HB0.out.below u.h).c1
 have fq1 : ∀ u : Cl W, u.x.cell? ⟨w.heap.size + 1, 1, none⟩ = some (.string sb) := fun u => (HB1.out.below u.h).c1
 refine wp_region_cls (by kernel_rfl) ?_
 repeat (first | go_big_quiet_step (fail) | go_big_quiet_step ((go_at_call_of 75 (Value.string sa); exact quiet_cls HT1.out _)) | go_big_quiet_step ((go_at_call_of 75 (Value.string sb); exact quiet_cls HT2.out _)))
 refine wpQuiet_nil ?_
 intro w1 hw9
 have hB : Below W.heap.size W w1 := by obtain ⟨u, rfl⟩ := hw9; exact u.h
 clear hw9 fq0 fq1
 have HL1 := Lib.hid (bstep HL0.out hB)
 have HR1 := Lib.hid (HB2.out.below hB)
 clear hB HL0 HB0 HB1 HB2 this HT1 HT2
 obtain ⟨b4, hb4⟩ : ∃ b, w.heap.size + 1 + 1 = b := ⟨_, rfl⟩
 have HB4 := Lib.hid (show w.heap.size ≤ b4 by omega)
 rw [hb4] at HR1 ⊢
 clear hb4
 go_wp2
 go_loopg [5, 6] (y0 + 1) (fun gg v5 v6 wr => ∃ x y : Nat, v5 = .string (mg x) ∧ v6 = .string (mg y) ∧ Nat.gcd x y = G ∧ (mg x).size ≤ 90000 ∧ (mg y).size ≤ 90000 ∧ y < gg ∧ Bx wr b4 false ⟨#[]⟩ ∧ Below w.heap.size w wr)
 case atStart => exact ⟨x0, y0, rfl, rfl, HG.out, HS1.out, HS2.out, Nat.lt_succ_self _, HR1.out, HL1.out⟩
 case round =>
  clear HR1 HL1 HG HS1 HS2
  obtain ⟨x, y, rfl, rfl, hG, hx, hy, hg, hr, hb⟩ := hrel
  have HG := Lib.hid hG
  have HX := Lib.hid hx
  have HY := Lib.hid hy
  have HR := Lib.hid hr
  have HB := Lib.hid hb
  have HGG := Lib.hid hg
  obtain ⟨r0, r1, r2, r3, _⟩ := id hr
  clear hG hx hy hr hb hg
  by_cases h0 : y = 0
  ·subst h0
   have hE := mg_empty
   have HF := Lib.hid (show x = G by rw [← HG.out, Nat.gcd_zero_right])
   go_wp2
   refine bodyPost_ret (v := .agg #[.bool false, .string (mg x)]) (by simp [results, Tryz.results132, go_sem, r0, r1]) rfl ?_
   exact ret_gcd HF.out ((HB.out.setCell (p := ⟨b4, 0, none⟩) HB4.out _).setCell (p := ⟨b4, 1, none⟩) HB4.out _)
  ·have hE := mg_full h0
   have HM := Lib.hid (fun X => rdivMag_any x y X (by omega) HX.out HY.out)
   have HYP := Lib.hid h0
   clear h0
   by_cases h7 : (mg x).size ≤ 7 ∧ (mg y).size ≤ 7
   ·have t1 : decide ((7 : Int) < (mg x).size) = false := decide_eq_false (by omega)
    have t2 : decide ((7 : Int) < (mg y).size) = false := decide_eq_false (by omega)
    have HA := Lib.hid (fun X => gcdSm x h7.1 X)
    have HC := Lib.hid (fun X => gcdSm y h7.2 X)
    have HXL := Lib.hid (sz7 h7.1)
    have HYL := Lib.hid (sz7 h7.2)
    clear h7
    go_wp2_with (first
     | (go_at_call_of 77 (Value.string (mg x)); refine (HA.out _).mono ?_; rintro e w2 ⟨rfl, rfl⟩)
     | (go_at_call_of 77 (Value.string (mg y)); refine (HC.out _).mono ?_; rintro e w3 ⟨rfl, rfl⟩))
    clear r0 r1 r2 r3 t1 t2 hE
    obtain ⟨wo, rfl⟩ : ∃ wo : World, wo = wr := ⟨_, rfl⟩
    go_loopg [9, 10] (y + 1) (fun gg v9 v10 wr => ∃ m n : Nat, v9 = .int .i64 m ∧ v10 = .int .i64 n ∧ Nat.gcd m n = G ∧ m < 72057594037927936 ∧ n < 72057594037927936 ∧ n < gg ∧ Bx wr b4 false ⟨#[]⟩ ∧ Below w.heap.size w wr)
    case atStart => exact ⟨x, y, rfl, rfl, HG.out, HXL.out, HYL.out, Nat.lt_succ_self _, HR.out, HB.out⟩
    case round =>
     clear HXL HYL HA HC HM HR HB HG
     obtain ⟨m, n, rfl, rfl, hG, hm, hn, hg, hr, hb⟩ := hrel
     have HG := Lib.hid hG
     have HR := Lib.hid hr
     have HB := Lib.hid hb
     have HGG := Lib.hid hg
     have HML := Lib.hid hm
     have HNL := Lib.hid hn
     clear hG hr hb hg
     by_cases h0 : n = 0
     ·subst h0
      have HF := Lib.hid (show m = G by rw [← HG.out, Nat.gcd_zero_right])
      have HO := Lib.hid (fun X => gcdOf m HML.out X)
      clear hm hn
      go_wp2_with (go_at_call 46; refine (HO.out _).mono ?_; rintro e w4 ⟨rfl, hb⟩; have HR4 := Lib.hid (HR.out.below hb); have HB4' := Lib.hid (bstep HB.out hb); clear hb; obtain ⟨r0, r1, r2, r3, _⟩ := id HR4.out)
      refine bodyPost_ret (v := .agg #[.bool false, .string (mg m)]) (by simp [results, Tryz.results132, go_sem, r0, r1]) rfl ?_
      exact ret_gcd HF.out ((HB4'.out.setCell (p := ⟨b4, 0, none⟩) HB4.out _).setCell (p := ⟨b4, 1, none⟩) HB4.out _)
     ·have t1 : (0 : Int) < n := by omega
      have t2 : ¬ (n : Int) = 0 := by omega
      have HMOD := Lib.hid (Nat.mod_lt m (Nat.pos_of_ne_zero h0))
      have HGN := Lib.hid (show Nat.gcd n (m % n) = G by rw [gcd_next]; exact HG.out)
      have hmd := gtmod_nat m n
      have hwm : wrap64 ((m % n : Nat) : Int) = ((m % n : Nat) : Int) := by have := HMOD.out; unfold wrap64; omega
      clear hm hn h0
      go_wp2
      go_quiet (fail)
      go_wp2
      go_roundg n
      case rel => exact ⟨n, m % n, rfl, rfl, HGN.out, HNL.out, Nat.lt_trans HMOD.out HNL.out, HMOD.out, (HR.out.below (below_drewN (Below.refl _ _) _)), bstep HB.out (below_drewN (Below.refl _ _) _)⟩
      case measure => exact HGG.out
   ·have HMOD := Lib.hid (Nat.mod_lt x (Nat.pos_of_ne_zero HYP.out))
    have HGN := Lib.hid (show Nat.gcd y (x % y) = G by rw [gcd_next]; exact HG.out)
    have HSM := Lib.hid (show (mg (x % y)).size ≤ 90000 from Nat.le_trans (mg_mono (Nat.mod_le _ _)) HX.out)
    have hw : decide ((7 : Int) < (mg x).size) = true ∨ (decide ((7 : Int) < (mg x).size) = false ∧ decide ((7 : Int) < (mg y).size) = true) := by
     by_cases hx : (7 : Int) < (mg x).size
     ·exact .inl (decide_eq_true hx)
     ·exact .inr ⟨decide_eq_false hx, decide_eq_true (by omega)⟩
    clear h7
    rcases hw with t1 | ⟨t1, t2⟩
    all_goals (
     go_wp2_with (go_at_call 134; refine (HM.out _).mono ?_; rintro e w2 ⟨rfl, hb⟩; have HR2 := Lib.hid (HR.out.below hb); have HB2 := Lib.hid (bstep HB.out hb); clear hb)
     go_roundg y
     case rel => exact ⟨y, x % y, rfl, rfl, HGN.out, HY.out, HSM.out, HMOD.out, HR2.out, HB2.out⟩
     case measure => exact HGG.out)
end Go.Proofs.Gv
