import Derived.Test.YtfhncfphphieiaaGreatRefMulI
import Derived.Test.YtfhncfphphieiaaGreatFront
import Derived.Deep.RegionHeld3
set_option maxHeartbeats 20000000
set_option maxRecDepth 100000
set_option linter.unusedSimpArgs false
set_option linter.unusedVariables false
namespace Go.Proofs.Gv
open Go Go.RowKit
theorem adds_same {a b : Int} {s : Bool} (es1 : sgn a = s) (es2 : sgn b = s) : sgn (a + b) = s ∧ (a + b).natAbs = a.natAbs + b.natAbs := by
 cases s with
 | true => have := sgn_true es1; have := sgn_true es2; exact ⟨decide_eq_true (by omega), by omega⟩
 | false => have := sgn_false es1; have := sgn_false es2; exact ⟨decide_eq_false (by omega), by omega⟩
theorem adds_lt {a b : Int} {s1 s2 : Bool} (es1 : sgn a = s1) (es2 : sgn b = s2) (hne : (s1 == s2) = false) (hc : a.natAbs < b.natAbs) : sgn (a + b) = s2 ∧ (a + b).natAbs = b.natAbs - a.natAbs := by
 cases s1 <;> cases s2
 ·cases hne
 ·have := sgn_false es1; have := sgn_true es2; exact ⟨decide_eq_true (by omega), by omega⟩
 ·have := sgn_true es1; have := sgn_false es2; exact ⟨decide_eq_false (by omega), by omega⟩
 ·cases hne
theorem adds_gt {a b : Int} {s1 s2 : Bool} (es1 : sgn a = s1) (es2 : sgn b = s2) (hne : (s1 == s2) = false) (hc : b.natAbs < a.natAbs) : sgn (a + b) = s1 ∧ (a + b).natAbs = a.natAbs - b.natAbs := by
 cases s1 <;> cases s2
 ·cases hne
 ·have := sgn_false es1; have := sgn_true es2; exact ⟨decide_eq_false (by omega), by omega⟩
 ·have := sgn_true es1; have := sgn_false es2; exact ⟨decide_eq_true (by omega), by omega⟩
 ·cases hne
theorem adds_eq {a b : Int} {s1 s2 : Bool} (es1 : sgn a = s1) (es2 : sgn b = s2) (hne : (s1 == s2) = false) (hc : a.natAbs = b.natAbs) : a + b = 0 := by
 cases s1 <;> cases s2
 ·cases hne
 ·have := sgn_false es1; have := sgn_true es2; omega
 ·have := sgn_true es1; have := sgn_false es2; omega
 ·cases hne
theorem rAdd_small (na nb : Bool) (sa sb : ByteArray) (a b : Int) (w : World) (ha : Rp na sa a) (hb : Rp nb sb b) (h1 : sa.size ≤ 100000) (h2 : sb.size ≤ 100000) (h8 : (mg a.natAbs).size < 8 ∧ (mg b.natAbs).size < 8) :
  Calls Tryz.prog 26 #[.agg #[.bool na, .string sa], .agg #[.bool nb, .string sb]] w (RetI w (a + b)) := by
 have H1 := Lib.hid (cCanon ha)
 have H2 := Lib.hid (cCanon hb)
 have hs1 : (mg a.natAbs).size ≤ 100000 := Nat.le_trans (szB sa.size (ha.lt (Nat.le_refl _))) h1
 have hs2 : (mg b.natAbs).size ≤ 100000 := Nat.le_trans (szB sb.size (hb.lt (Nat.le_refl _))) h2
 clear ha hb h1 h2
 have HL0 := Lib.hid ((((Below.refl w.heap.size w).alloc (Nat.le_refl _) (.cells #[.bool na, .string sa] 36)).alloc (by simp) (.cells #[.bool nb, .string sb] 36)).alloc (by simp; omega) (.cells #[.bool false, .string ⟨#[]⟩] 36))
 have HB0 := Lib.hid (((Bx.new w w.heap.size na sa rfl).alloc (.cells #[.bool nb, .string sb] 36)).alloc (.cells #[.bool false, .string ⟨#[]⟩] 36))
 have HB1 := Lib.hid ((Bx.new (w.alloc (.cells #[.bool na, .string sa] 36)) (w.heap.size + 1) nb sb (by simp)).alloc (.cells #[.bool false, .string ⟨#[]⟩] 36))
 have HB2 := Lib.hid (Bx.new ((w.alloc (.cells #[.bool na, .string sa] 36)).alloc (.cells #[.bool nb, .string sb] 36)) (w.heap.size + 1 + 1) false ⟨#[]⟩ (by simp))
 go_enter Tryz.func26, Tryz.ntmps26
 go_upto_region 1 with fail
 obtain ⟨W, hW⟩ : ∃ W, ((w.alloc (.cells #[.bool na, .string sa] 36)).alloc (.cells #[.bool nb, .string sb] 36)).alloc (.cells #[.bool false, .string ⟨#[]⟩] 36) = W := ⟨_, rfl⟩
 rw [hW] at HL0 HB0 HB1 HB2 ⊢
 clear hW
 go_cut [] (fun wx => Below w.heap.size w wx ∧ Bx wx (w.heap.size) (sgn a) (mg a.natAbs) ∧ Bx wx (w.heap.size + 1) (sgn b) (mg b.natAbs) ∧ Bx wx (w.heap.size + 1 + 1) false ⟨#[]⟩)
 case first =>
  refine wp_region_front 4 zvI (by kernel_rfl) shI (by kernel_rfl) (by kernel_rfl) (zvI_alloc _ (by kernel_rfl)) (shI_store _ (by kernel_rfl)) ?_
  intro mm BW hm1 hm2 hBW
  haveI := clm_some mm BW
  have fq0 := fun u : Clm mm BW => (HB0.out.clm hm1 hBW u).1
  have fr0 := fun u : Clm mm BW => (HB0.out.clm hm1 hBW u).2
  have fq1 := fun u : Clm mm BW => (HB1.out.clm hm1 hBW u).1
  have fr1 := fun u : Clm mm BW => (HB1.out.clm hm1 hBW u).2
  simp only [frontOf, unmade, List.take_succ_cons, List.take_zero, List.map_cons, List.map_nil]
  iterate 1 (go_big_quiet_step (fail))
  go_big_quiet_step ((go_at_call 45; exact quiet_clm hm2 H1.out _))
  iterate 1 (go_big_quiet_step (fail))
  go_big_quiet_step ((go_at_call 45; exact quiet_clm hm2 H2.out _))
  refine wpQuiet_nil ?_
  refine ⟨List.forall_mem_nil _, ?_⟩
  intro γ w9 hB9 hF
  clear hF hBW this hm1 hm2 fq0 fr0 fq1 fr1
  clear BW mm
  simp only [madesFrom, Facts, patch, List.take_succ_cons, List.take_zero, List.drop_succ_cons, List.drop_zero]
  clear γ
  have hl0 := bstep HL0.out hB9
  have bx0 := HB0.out.below hB9
  have bx1 := HB1.out.below hB9
  have bx2 := HB2.out.below hB9
  clear hB9
  obtain ⟨fx3, fy3, fz3, ft3, _⟩ := id bx0
  obtain ⟨fx6, fy6, fz6, ft6, _⟩ := id bx1
  go_wp2_with fail
  go_meet
  exact ⟨((((hl0.setCell (p := ⟨_, 0, none⟩) (Nat.le_refl _) _).setCell (p := ⟨_, 1, none⟩) (Nat.le_refl _) _).setCell (p := ⟨_, 0, none⟩) (Nat.le_succ _) _).setCell (p := ⟨_, 1, none⟩) (Nat.le_succ _) _), (bx0.set).other (by omega), (bx1.other (by omega)).set, (bx2.other (by omega)).other (by omega)⟩
 case rest =>
  obtain ⟨hl0, bx0, bx1, bx2⟩ := hcut
  obtain ⟨X1, rfl⟩ : ∃ X, X = wc := ⟨_, rfl⟩
  have HL1 := Lib.hid hl0
  have BX2 := Lib.hid bx2
  have BX0 := Lib.hid bx0
  have BX1 := Lib.hid bx1
  clear hl0 HL0 HB0 HB1 HB2
  obtain ⟨x0, x1, x2, x3, x4⟩ := bx0
  obtain ⟨y0, y1, y2, y3, y4⟩ := bx1
  obtain ⟨z0, z1, z2, z3, z4⟩ := bx2
  have FIN := Lib.hid (fun (W1 : World) (n : Bool) (t : ByteArray) (h : Below w.heap.size w W1) => (h.setCell (p := ⟨w.heap.size + 1 + 1, 0, none⟩) (by show w.heap.size ≤ w.heap.size + 1 + 1; omega) (.bool n)).setCell (p := ⟨w.heap.size + 1 + 1, 1, none⟩) (by show w.heap.size ≤ w.heap.size + 1 + 1; omega) (.string t))
  have h8a : ((mg a.natAbs).size : Int) < 8 := by omega
  have h8b : ((mg b.natAbs).size : Int) < 8 := by omega
  have la := bv_lt (byt a.natAbs)
  have lb := bv_lt (byt b.natAbs)
  rw [bv_byt, ← size_mgL] at la lb
  have lA : a.natAbs < 72057594037927936 := Nat.lt_of_lt_of_le la (Nat.le_trans (Nat.pow_le_pow_right (by decide) (show (mg a.natAbs).size ≤ 7 by omega)) (by decide))
  have lB : b.natAbs < 72057594037927936 := Nat.lt_of_lt_of_le lb (Nat.le_trans (Nat.pow_le_pow_right (by decide) (show (mg b.natAbs).size ≤ 7 by omega)) (by decide))
  have HV1 := Lib.hid (fun X => rvalue_any a X (by omega))
  have HV2 := Lib.hid (fun X => rvalue_any b X (by omega))
  have HOf := Lib.hid (fun X => show Calls Tryz.prog 46 #[.int .i64 (a + b)] X (fun e w' => e = .returned (.agg #[.bool (sgn (a + b)), .string (mg (a + b).natAbs)]) ∧ Below X.heap.size X w') from rOf_any (a + b) X (by omega) (by omega))
  have hwm : IntKind.i64.wrap (a + b) = a + b := by rw [IntKind.wrap_i64]; omega
  clear la lb lA lB
  go_wp2_with fail
  refine wp_region_front 6 zvI (by kernel_rfl) shI (by kernel_rfl) (by kernel_rfl) (zvI_alloc _ (by kernel_rfl)) (shI_store _ (by kernel_rfl)) ?_
  intro mm BW hm1 hm2 hBW
  haveI := clm_some mm BW
  have fq0 := fun u : Clm mm BW => (BX0.out.clm hm1 hBW u).1
  have fr0 := fun u : Clm mm BW => (BX0.out.clm hm1 hBW u).2
  have fq1 := fun u : Clm mm BW => (BX1.out.clm hm1 hBW u).1
  have fr1 := fun u : Clm mm BW => (BX1.out.clm hm1 hBW u).2
  simp only [frontOf, unmade, List.take_succ_cons, List.take_zero, List.map_cons, List.map_nil]
  iterate 1 (go_big_quiet_step (fail))
  go_big_quiet_step ((go_at_call 47; exact quiet_clm hm2 HV1.out _))
  iterate 1 (go_big_quiet_step (fail))
  go_big_quiet_step ((go_at_call 47; exact quiet_clm hm2 HV2.out _))
  iterate 1 (go_big_quiet_step (fail))
  go_big_quiet_step ((go_at_call 46; exact quiet_clm hm2 HOf.out _))
  refine wpQuiet_nil ?_
  refine ⟨List.forall_mem_nil _, ?_⟩
  intro γ w9 hB9 hF
  clear hF hBW this hm1 hm2 fq0 fr0 fq1 fr1
  clear BW mm
  simp only [madesFrom, Facts, patch, List.take_succ_cons, List.take_zero, List.drop_succ_cons, List.drop_zero]
  clear γ
  have hl0 := bstep HL1.out hB9
  obtain ⟨g0, g1, g2, g3, _⟩ := BX2.out.below hB9
  clear hB9 x0 x1 x2 x3 x4 y0 y1 y2 y3 y4 z0 z1 z2 z3 z4
  go_wp2
  refine bodyPost_ret (v := .agg #[.bool (sgn (a + b)), .string (mg (a + b).natAbs)]) (by simp [results, Tryz.results26, go_sem, g0, g1]) rfl ?_
  exact ⟨rfl, FIN.out _ _ _ hl0⟩
theorem rAdd_same (na nb : Bool) (sa sb : ByteArray) (a b : Int) (w : World) (ha : Rp na sa a) (hb : Rp nb sb b) (h1 : sa.size ≤ 100000) (h2 : sb.size ≤ 100000) (hT : decide (((mg a.natAbs).size : Int) < 8) = false ∨ (((mg a.natAbs).size : Int) < 8 ∧ decide (((mg b.natAbs).size : Int) < 8) = false)) (s : Bool) (es1 : sgn a = s) (es2 : sgn b = s) :
  Calls Tryz.prog 26 #[.agg #[.bool na, .string sa], .agg #[.bool nb, .string sb]] w (RetI w (a + b)) := by
 have KhT := Lib.hid hT
 have Kes1 := Lib.hid es1
 have Kes2 := Lib.hid es2
 clear hT es1 es2
 have H1 := Lib.hid (cCanon ha)
 have H2 := Lib.hid (cCanon hb)
 have hs1 : (mg a.natAbs).size ≤ 100000 := Nat.le_trans (szB sa.size (ha.lt (Nat.le_refl _))) h1
 have hs2 : (mg b.natAbs).size ≤ 100000 := Nat.le_trans (szB sb.size (hb.lt (Nat.le_refl _))) h2
 clear ha hb h1 h2
 have HL0 := Lib.hid ((((Below.refl w.heap.size w).alloc (Nat.le_refl _) (.cells #[.bool na, .string sa] 36)).alloc (by simp) (.cells #[.bool nb, .string sb] 36)).alloc (by simp; omega) (.cells #[.bool false, .string ⟨#[]⟩] 36))
 have HB0 := Lib.hid (((Bx.new w w.heap.size na sa rfl).alloc (.cells #[.bool nb, .string sb] 36)).alloc (.cells #[.bool false, .string ⟨#[]⟩] 36))
 have HB1 := Lib.hid ((Bx.new (w.alloc (.cells #[.bool na, .string sa] 36)) (w.heap.size + 1) nb sb (by simp)).alloc (.cells #[.bool false, .string ⟨#[]⟩] 36))
 have HB2 := Lib.hid (Bx.new ((w.alloc (.cells #[.bool na, .string sa] 36)).alloc (.cells #[.bool nb, .string sb] 36)) (w.heap.size + 1 + 1) false ⟨#[]⟩ (by simp))
 go_enter Tryz.func26, Tryz.ntmps26
 go_upto_region 1 with fail
 obtain ⟨W, hW⟩ : ∃ W, ((w.alloc (.cells #[.bool na, .string sa] 36)).alloc (.cells #[.bool nb, .string sb] 36)).alloc (.cells #[.bool false, .string ⟨#[]⟩] 36) = W := ⟨_, rfl⟩
 rw [hW] at HL0 HB0 HB1 HB2 ⊢
 clear hW
 go_cut [] (fun wx => Below w.heap.size w wx ∧ Bx wx (w.heap.size) (sgn a) (mg a.natAbs) ∧ Bx wx (w.heap.size + 1) (sgn b) (mg b.natAbs) ∧ Bx wx (w.heap.size + 1 + 1) false ⟨#[]⟩)
 case first =>
  refine wp_region_front 4 zvI (by kernel_rfl) shI (by kernel_rfl) (by kernel_rfl) (zvI_alloc _ (by kernel_rfl)) (shI_store _ (by kernel_rfl)) ?_
  intro mm BW hm1 hm2 hBW
  haveI := clm_some mm BW
  have fq0 := fun u : Clm mm BW => (HB0.out.clm hm1 hBW u).1
  have fr0 := fun u : Clm mm BW => (HB0.out.clm hm1 hBW u).2
  have fq1 := fun u : Clm mm BW => (HB1.out.clm hm1 hBW u).1
  have fr1 := fun u : Clm mm BW => (HB1.out.clm hm1 hBW u).2
  simp only [frontOf, unmade, List.take_succ_cons, List.take_zero, List.map_cons, List.map_nil]
  iterate 1 (go_big_quiet_step (fail))
  go_big_quiet_step ((go_at_call 45; exact quiet_clm hm2 H1.out _))
  iterate 1 (go_big_quiet_step (fail))
  go_big_quiet_step ((go_at_call 45; exact quiet_clm hm2 H2.out _))
  refine wpQuiet_nil ?_
  refine ⟨List.forall_mem_nil _, ?_⟩
  intro γ w9 hB9 hF
  clear hF hBW this hm1 hm2 fq0 fr0 fq1 fr1
  clear BW mm
  simp only [madesFrom, Facts, patch, List.take_succ_cons, List.take_zero, List.drop_succ_cons, List.drop_zero]
  clear γ
  have hl0 := bstep HL0.out hB9
  have bx0 := HB0.out.below hB9
  have bx1 := HB1.out.below hB9
  have bx2 := HB2.out.below hB9
  clear hB9
  obtain ⟨fx3, fy3, fz3, ft3, _⟩ := id bx0
  obtain ⟨fx6, fy6, fz6, ft6, _⟩ := id bx1
  go_wp2_with fail
  go_meet
  exact ⟨((((hl0.setCell (p := ⟨_, 0, none⟩) (Nat.le_refl _) _).setCell (p := ⟨_, 1, none⟩) (Nat.le_refl _) _).setCell (p := ⟨_, 0, none⟩) (Nat.le_succ _) _).setCell (p := ⟨_, 1, none⟩) (Nat.le_succ _) _), (bx0.set).other (by omega), (bx1.other (by omega)).set, (bx2.other (by omega)).other (by omega)⟩
 case rest =>
  obtain ⟨hl0, bx0, bx1, bx2⟩ := hcut
  obtain ⟨X1, rfl⟩ : ∃ X, X = wc := ⟨_, rfl⟩
  have HL1 := Lib.hid hl0
  have BX2 := Lib.hid bx2
  have BX0 := Lib.hid bx0
  have BX1 := Lib.hid bx1
  clear hl0 HL0 HB0 HB1 HB2
  obtain ⟨x0, x1, x2, x3, x4⟩ := bx0
  obtain ⟨y0, y1, y2, y3, y4⟩ := bx1
  obtain ⟨z0, z1, z2, z3, z4⟩ := bx2
  have FIN := Lib.hid (fun (W1 : World) (n : Bool) (t : ByteArray) (h : Below w.heap.size w W1) => (h.setCell (p := ⟨w.heap.size + 1 + 1, 0, none⟩) (by show w.heap.size ≤ w.heap.size + 1 + 1; omega) (.bool n)).setCell (p := ⟨w.heap.size + 1 + 1, 1, none⟩) (by show w.heap.size ≤ w.heap.size + 1 + 1; omega) (.string t))
  have es1 := Kes1.out
  have es2 := Kes2.out
  rw [es1] at x0 BX0
  rw [es2] at y0 BX1
  have HE := Lib.hid (adds_same es1 es2)
  have HM := Lib.hid (fun X => show Calls Tryz.prog 48 #[.string (mg a.natAbs), .string (mg b.natAbs)] X (fun e w' => e = .returned (.string (mg (a.natAbs + b.natAbs))) ∧ Below X.heap.size X w') from by
   have := raddMag_any (mg a.natAbs) (mg b.natAbs) X hs1 hs2
   rwa [bv_mg, bv_mg] at this)
  clear es1 es2
  have hss : (s == s) = true := by cases s <;> rfl
  rcases KhT.out with hT | ⟨hT, hT2⟩
  all_goals (
   go_wp2_with fail
   refine wp_region_front 8 zvI (by kernel_rfl) shI (by kernel_rfl) (by kernel_rfl) (zvI_alloc _ (by kernel_rfl)) (shI_store _ (by kernel_rfl)) ?_
   intro mm BW hm1 hm2 hBW
   haveI := clm_some mm BW
   have fq0 := fun u : Clm mm BW => (BX0.out.clm hm1 hBW u).1
   have fr0 := fun u : Clm mm BW => (BX0.out.clm hm1 hBW u).2
   have fq1 := fun u : Clm mm BW => (BX1.out.clm hm1 hBW u).1
   have fr1 := fun u : Clm mm BW => (BX1.out.clm hm1 hBW u).2
   simp only [frontOf, unmade, List.take_succ_cons, List.take_zero, List.map_cons, List.map_nil]
   iterate 6 (go_big_quiet_step (fail))
   go_big_quiet_step ((go_at_call 48; exact quiet_clm hm2 HM.out _))
   iterate 1 (go_big_quiet_step (fail))
   refine wpQuiet_nil ?_
   refine ⟨List.forall_mem_nil _, ?_⟩
   intro γ w9 hB9 hF
   clear hF hBW this hm1 hm2 fq0 fr0 fq1 fr1
   clear BW mm
   simp only [madesFrom, Facts, patch, List.take_succ_cons, List.take_zero, List.drop_succ_cons, List.drop_zero]
   clear γ
   have hl0 := bstep HL1.out hB9
   obtain ⟨g0, g1, g2, g3, _⟩ := BX2.out.below hB9
   clear hB9 x0 x1 x2 x3 x4 y0 y1 y2 y3 y4 z0 z1 z2 z3 z4
   go_wp2
   refine bodyPost_ret (v := .agg #[.bool s, .string (mg (a.natAbs + b.natAbs))]) (by simp [results, Tryz.results26, go_sem, g0, g1]) rfl ?_
   exact ⟨by rw [HE.out.1, HE.out.2], FIN.out _ _ _ hl0⟩)
theorem rAdd_lt (na nb : Bool) (sa sb : ByteArray) (a b : Int) (w : World) (ha : Rp na sa a) (hb : Rp nb sb b) (h1 : sa.size ≤ 100000) (h2 : sb.size ≤ 100000) (hT : decide (((mg a.natAbs).size : Int) < 8) = false ∨ (((mg a.natAbs).size : Int) < 8 ∧ decide (((mg b.natAbs).size : Int) < 8) = false)) (s1 s2 : Bool) (es1 : sgn a = s1) (es2 : sgn b = s2) (hne : (s1 == s2) = false) (hc : a.natAbs < b.natAbs) :
  Calls Tryz.prog 26 #[.agg #[.bool na, .string sa], .agg #[.bool nb, .string sb]] w (RetI w (a + b)) := by
 have KhT := Lib.hid hT
 have Kes1 := Lib.hid es1
 have Kes2 := Lib.hid es2
 have Khne := Lib.hid hne
 have Khc := Lib.hid hc
 clear hT es1 es2 hne hc
 have H1 := Lib.hid (cCanon ha)
 have H2 := Lib.hid (cCanon hb)
 have hs1 : (mg a.natAbs).size ≤ 100000 := Nat.le_trans (szB sa.size (ha.lt (Nat.le_refl _))) h1
 have hs2 : (mg b.natAbs).size ≤ 100000 := Nat.le_trans (szB sb.size (hb.lt (Nat.le_refl _))) h2
 clear ha hb h1 h2
 have HL0 := Lib.hid ((((Below.refl w.heap.size w).alloc (Nat.le_refl _) (.cells #[.bool na, .string sa] 36)).alloc (by simp) (.cells #[.bool nb, .string sb] 36)).alloc (by simp; omega) (.cells #[.bool false, .string ⟨#[]⟩] 36))
 have HB0 := Lib.hid (((Bx.new w w.heap.size na sa rfl).alloc (.cells #[.bool nb, .string sb] 36)).alloc (.cells #[.bool false, .string ⟨#[]⟩] 36))
 have HB1 := Lib.hid ((Bx.new (w.alloc (.cells #[.bool na, .string sa] 36)) (w.heap.size + 1) nb sb (by simp)).alloc (.cells #[.bool false, .string ⟨#[]⟩] 36))
 have HB2 := Lib.hid (Bx.new ((w.alloc (.cells #[.bool na, .string sa] 36)).alloc (.cells #[.bool nb, .string sb] 36)) (w.heap.size + 1 + 1) false ⟨#[]⟩ (by simp))
 go_enter Tryz.func26, Tryz.ntmps26
 go_upto_region 1 with fail
 obtain ⟨W, hW⟩ : ∃ W, ((w.alloc (.cells #[.bool na, .string sa] 36)).alloc (.cells #[.bool nb, .string sb] 36)).alloc (.cells #[.bool false, .string ⟨#[]⟩] 36) = W := ⟨_, rfl⟩
 rw [hW] at HL0 HB0 HB1 HB2 ⊢
 clear hW
 go_cut [] (fun wx => Below w.heap.size w wx ∧ Bx wx (w.heap.size) (sgn a) (mg a.natAbs) ∧ Bx wx (w.heap.size + 1) (sgn b) (mg b.natAbs) ∧ Bx wx (w.heap.size + 1 + 1) false ⟨#[]⟩)
 case first =>
  refine wp_region_front 4 zvI (by kernel_rfl) shI (by kernel_rfl) (by kernel_rfl) (zvI_alloc _ (by kernel_rfl)) (shI_store _ (by kernel_rfl)) ?_
  intro mm BW hm1 hm2 hBW
  haveI := clm_some mm BW
  have fq0 := fun u : Clm mm BW => (HB0.out.clm hm1 hBW u).1
  have fr0 := fun u : Clm mm BW => (HB0.out.clm hm1 hBW u).2
  have fq1 := fun u : Clm mm BW => (HB1.out.clm hm1 hBW u).1
  have fr1 := fun u : Clm mm BW => (HB1.out.clm hm1 hBW u).2
  simp only [frontOf, unmade, List.take_succ_cons, List.take_zero, List.map_cons, List.map_nil]
  iterate 1 (go_big_quiet_step (fail))
  go_big_quiet_step ((go_at_call 45; exact quiet_clm hm2 H1.out _))
  iterate 1 (go_big_quiet_step (fail))
  go_big_quiet_step ((go_at_call 45; exact quiet_clm hm2 H2.out _))
  refine wpQuiet_nil ?_
  refine ⟨List.forall_mem_nil _, ?_⟩
  intro γ w9 hB9 hF
  clear hF hBW this hm1 hm2 fq0 fr0 fq1 fr1
  clear BW mm
  simp only [madesFrom, Facts, patch, List.take_succ_cons, List.take_zero, List.drop_succ_cons, List.drop_zero]
  clear γ
  have hl0 := bstep HL0.out hB9
  have bx0 := HB0.out.below hB9
  have bx1 := HB1.out.below hB9
  have bx2 := HB2.out.below hB9
  clear hB9
  obtain ⟨fx3, fy3, fz3, ft3, _⟩ := id bx0
  obtain ⟨fx6, fy6, fz6, ft6, _⟩ := id bx1
  go_wp2_with fail
  go_meet
  exact ⟨((((hl0.setCell (p := ⟨_, 0, none⟩) (Nat.le_refl _) _).setCell (p := ⟨_, 1, none⟩) (Nat.le_refl _) _).setCell (p := ⟨_, 0, none⟩) (Nat.le_succ _) _).setCell (p := ⟨_, 1, none⟩) (Nat.le_succ _) _), (bx0.set).other (by omega), (bx1.other (by omega)).set, (bx2.other (by omega)).other (by omega)⟩
 case rest =>
  obtain ⟨hl0, bx0, bx1, bx2⟩ := hcut
  obtain ⟨X1, rfl⟩ : ∃ X, X = wc := ⟨_, rfl⟩
  have HL1 := Lib.hid hl0
  have BX2 := Lib.hid bx2
  have BX0 := Lib.hid bx0
  have BX1 := Lib.hid bx1
  clear hl0 HL0 HB0 HB1 HB2
  obtain ⟨x0, x1, x2, x3, x4⟩ := bx0
  obtain ⟨y0, y1, y2, y3, y4⟩ := bx1
  obtain ⟨z0, z1, z2, z3, z4⟩ := bx2
  have FIN := Lib.hid (fun (W1 : World) (n : Bool) (t : ByteArray) (h : Below w.heap.size w W1) => (h.setCell (p := ⟨w.heap.size + 1 + 1, 0, none⟩) (by show w.heap.size ≤ w.heap.size + 1 + 1; omega) (.bool n)).setCell (p := ⟨w.heap.size + 1 + 1, 1, none⟩) (by show w.heap.size ≤ w.heap.size + 1 + 1; omega) (.string t))
  have es1 := Kes1.out
  have es2 := Kes2.out
  have hne := Khne.out
  have hc := Khc.out
  rw [es1] at x0 BX0
  rw [es2] at y0 BX1
  have HCm := Lib.hid (fun X => show Calls Tryz.prog 49 #[.string (mg a.natAbs), .string (mg b.natAbs)] X (fun e w' => e = .returned (.int .i64 (-1)) ∧ X = w') from by
   have := rcmp_any a.natAbs b.natAbs X (Nat.le_trans hs1 (by decide)) (Nat.le_trans hs2 (by decide))
   rwa [cmpI_lt (Int.ofNat_lt.2 hc)] at this)
  have HM := Lib.hid (fun X => show Calls Tryz.prog 50 #[.string (mg b.natAbs), .string (mg a.natAbs)] X (fun e w' => e = .returned (.string (mg (b.natAbs - a.natAbs))) ∧ Below X.heap.size X w') from by
   have := rsubMag_any (mg b.natAbs) (mg a.natAbs) X hs2 (mg_mono (Nat.le_of_lt hc)) (by rw [bv_mg, bv_mg]; exact Nat.le_of_lt hc)
   rwa [bv_mg, bv_mg] at this)
  have HE := Lib.hid (adds_lt es1 es2 hne hc)
  clear es1 es2 hc
  rcases KhT.out with hT | ⟨hT, hT2⟩
  all_goals (
   go_wp2_with (go_at_call 49; refine (HCm.out _).mono ?_; rintro e w1 ⟨rfl, rfl⟩)
   refine wp_region_front 8 zvI (by kernel_rfl) shI (by kernel_rfl) (by kernel_rfl) (zvI_alloc _ (by kernel_rfl)) (shI_store _ (by kernel_rfl)) ?_
   intro mm BW hm1 hm2 hBW
   haveI := clm_some mm BW
   have fq0 := fun u : Clm mm BW => (BX0.out.clm hm1 hBW u).1
   have fr0 := fun u : Clm mm BW => (BX0.out.clm hm1 hBW u).2
   have fq1 := fun u : Clm mm BW => (BX1.out.clm hm1 hBW u).1
   have fr1 := fun u : Clm mm BW => (BX1.out.clm hm1 hBW u).2
   simp only [frontOf, unmade, List.take_succ_cons, List.take_zero, List.map_cons, List.map_nil]
   iterate 6 (go_big_quiet_step (fail))
   go_big_quiet_step ((go_at_call 50; exact quiet_clm hm2 HM.out _))
   iterate 1 (go_big_quiet_step (fail))
   refine wpQuiet_nil ?_
   refine ⟨List.forall_mem_nil _, ?_⟩
   intro γ w9 hB9 hF
   clear hF hBW this hm1 hm2 fq0 fr0 fq1 fr1
   clear BW mm
   simp only [madesFrom, Facts, patch, List.take_succ_cons, List.take_zero, List.drop_succ_cons, List.drop_zero]
   clear γ
   have hl0 := bstep HL1.out hB9
   obtain ⟨g0, g1, g2, g3, _⟩ := BX2.out.below hB9
   clear hB9 x0 x1 x2 x3 x4 y0 y1 y2 y3 y4 z0 z1 z2 z3 z4
   go_wp2
   refine bodyPost_ret (v := .agg #[.bool s2, .string (mg (b.natAbs - a.natAbs))]) (by simp [results, Tryz.results26, go_sem, g0, g1]) rfl ?_
   exact ⟨by rw [HE.out.1, HE.out.2], FIN.out _ _ _ hl0⟩)
theorem rAdd_eq (na nb : Bool) (sa sb : ByteArray) (a b : Int) (w : World) (ha : Rp na sa a) (hb : Rp nb sb b) (h1 : sa.size ≤ 100000) (h2 : sb.size ≤ 100000) (hT : decide (((mg a.natAbs).size : Int) < 8) = false ∨ (((mg a.natAbs).size : Int) < 8 ∧ decide (((mg b.natAbs).size : Int) < 8) = false)) (s1 s2 : Bool) (es1 : sgn a = s1) (es2 : sgn b = s2) (hne : (s1 == s2) = false) (hc : a.natAbs = b.natAbs) :
  Calls Tryz.prog 26 #[.agg #[.bool na, .string sa], .agg #[.bool nb, .string sb]] w (RetI w (a + b)) := by
 have KhT := Lib.hid hT
 have Kes1 := Lib.hid es1
 have Kes2 := Lib.hid es2
 have Khne := Lib.hid hne
 have Khc := Lib.hid hc
 clear hT es1 es2 hne hc
 have H1 := Lib.hid (cCanon ha)
 have H2 := Lib.hid (cCanon hb)
 have hs1 : (mg a.natAbs).size ≤ 100000 := Nat.le_trans (szB sa.size (ha.lt (Nat.le_refl _))) h1
 have hs2 : (mg b.natAbs).size ≤ 100000 := Nat.le_trans (szB sb.size (hb.lt (Nat.le_refl _))) h2
 clear ha hb h1 h2
 have HL0 := Lib.hid ((((Below.refl w.heap.size w).alloc (Nat.le_refl _) (.cells #[.bool na, .string sa] 36)).alloc (by simp) (.cells #[.bool nb, .string sb] 36)).alloc (by simp; omega) (.cells #[.bool false, .string ⟨#[]⟩] 36))
 have HB0 := Lib.hid (((Bx.new w w.heap.size na sa rfl).alloc (.cells #[.bool nb, .string sb] 36)).alloc (.cells #[.bool false, .string ⟨#[]⟩] 36))
 have HB1 := Lib.hid ((Bx.new (w.alloc (.cells #[.bool na, .string sa] 36)) (w.heap.size + 1) nb sb (by simp)).alloc (.cells #[.bool false, .string ⟨#[]⟩] 36))
 have HB2 := Lib.hid (Bx.new ((w.alloc (.cells #[.bool na, .string sa] 36)).alloc (.cells #[.bool nb, .string sb] 36)) (w.heap.size + 1 + 1) false ⟨#[]⟩ (by simp))
 go_enter Tryz.func26, Tryz.ntmps26
 go_upto_region 1 with fail
 obtain ⟨W, hW⟩ : ∃ W, ((w.alloc (.cells #[.bool na, .string sa] 36)).alloc (.cells #[.bool nb, .string sb] 36)).alloc (.cells #[.bool false, .string ⟨#[]⟩] 36) = W := ⟨_, rfl⟩
 rw [hW] at HL0 HB0 HB1 HB2 ⊢
 clear hW
 go_cut [] (fun wx => Below w.heap.size w wx ∧ Bx wx (w.heap.size) (sgn a) (mg a.natAbs) ∧ Bx wx (w.heap.size + 1) (sgn b) (mg b.natAbs) ∧ Bx wx (w.heap.size + 1 + 1) false ⟨#[]⟩)
 case first =>
  refine wp_region_front 4 zvI (by kernel_rfl) shI (by kernel_rfl) (by kernel_rfl) (zvI_alloc _ (by kernel_rfl)) (shI_store _ (by kernel_rfl)) ?_
  intro mm BW hm1 hm2 hBW
  haveI := clm_some mm BW
  have fq0 := fun u : Clm mm BW => (HB0.out.clm hm1 hBW u).1
  have fr0 := fun u : Clm mm BW => (HB0.out.clm hm1 hBW u).2
  have fq1 := fun u : Clm mm BW => (HB1.out.clm hm1 hBW u).1
  have fr1 := fun u : Clm mm BW => (HB1.out.clm hm1 hBW u).2
  simp only [frontOf, unmade, List.take_succ_cons, List.take_zero, List.map_cons, List.map_nil]
  iterate 1 (go_big_quiet_step (fail))
  go_big_quiet_step ((go_at_call 45; exact quiet_clm hm2 H1.out _))
  iterate 1 (go_big_quiet_step (fail))
  go_big_quiet_step ((go_at_call 45; exact quiet_clm hm2 H2.out _))
  refine wpQuiet_nil ?_
  refine ⟨List.forall_mem_nil _, ?_⟩
  intro γ w9 hB9 hF
  clear hF hBW this hm1 hm2 fq0 fr0 fq1 fr1
  clear BW mm
  simp only [madesFrom, Facts, patch, List.take_succ_cons, List.take_zero, List.drop_succ_cons, List.drop_zero]
  clear γ
  have hl0 := bstep HL0.out hB9
  have bx0 := HB0.out.below hB9
  have bx1 := HB1.out.below hB9
  have bx2 := HB2.out.below hB9
  clear hB9
  obtain ⟨fx3, fy3, fz3, ft3, _⟩ := id bx0
  obtain ⟨fx6, fy6, fz6, ft6, _⟩ := id bx1
  go_wp2_with fail
  go_meet
  exact ⟨((((hl0.setCell (p := ⟨_, 0, none⟩) (Nat.le_refl _) _).setCell (p := ⟨_, 1, none⟩) (Nat.le_refl _) _).setCell (p := ⟨_, 0, none⟩) (Nat.le_succ _) _).setCell (p := ⟨_, 1, none⟩) (Nat.le_succ _) _), (bx0.set).other (by omega), (bx1.other (by omega)).set, (bx2.other (by omega)).other (by omega)⟩
 case rest =>
  obtain ⟨hl0, bx0, bx1, bx2⟩ := hcut
  obtain ⟨X1, rfl⟩ : ∃ X, X = wc := ⟨_, rfl⟩
  have HL1 := Lib.hid hl0
  have BX2 := Lib.hid bx2
  have BX0 := Lib.hid bx0
  have BX1 := Lib.hid bx1
  clear hl0 HL0 HB0 HB1 HB2
  obtain ⟨x0, x1, x2, x3, x4⟩ := bx0
  obtain ⟨y0, y1, y2, y3, y4⟩ := bx1
  obtain ⟨z0, z1, z2, z3, z4⟩ := bx2
  have FIN := Lib.hid (fun (W1 : World) (n : Bool) (t : ByteArray) (h : Below w.heap.size w W1) => (h.setCell (p := ⟨w.heap.size + 1 + 1, 0, none⟩) (by show w.heap.size ≤ w.heap.size + 1 + 1; omega) (.bool n)).setCell (p := ⟨w.heap.size + 1 + 1, 1, none⟩) (by show w.heap.size ≤ w.heap.size + 1 + 1; omega) (.string t))
  have es1 := Kes1.out
  have es2 := Kes2.out
  have hne := Khne.out
  have hc := Khc.out
  rw [es1] at x0 BX0
  rw [es2] at y0 BX1
  have HCm := Lib.hid (fun X => show Calls Tryz.prog 49 #[.string (mg a.natAbs), .string (mg b.natAbs)] X (fun e w' => e = .returned (.int .i64 0) ∧ X = w') from by
   have := rcmp_any a.natAbs b.natAbs X (Nat.le_trans hs1 (by decide)) (Nat.le_trans hs2 (by decide))
   rwa [show cmpI (a.natAbs : Int) (b.natAbs : Int) = 0 by rw [hc]; exact cmpI_eq _] at this)
  have HZ := Lib.hid (adds_eq es1 es2 hne hc)
  clear es1 es2 hc
  rcases KhT.out with hT | ⟨hT, hT2⟩
  all_goals (
   go_wp2_with (go_at_call 49; refine (HCm.out _).mono ?_; rintro e w1 ⟨rfl, rfl⟩)
   refine bodyPost_ret (v := .agg #[.bool false, .string ⟨#[]⟩]) (by simp [results, Tryz.results26, go_sem, z0, z1]) rfl ?_
   exact ⟨by rw [HZ.out, show (0 : Int).natAbs = 0 from rfl, mg_zero]; rfl, FIN.out _ _ _ HL1.out⟩)
theorem rAdd_gt (na nb : Bool) (sa sb : ByteArray) (a b : Int) (w : World) (ha : Rp na sa a) (hb : Rp nb sb b) (h1 : sa.size ≤ 100000) (h2 : sb.size ≤ 100000) (hT : decide (((mg a.natAbs).size : Int) < 8) = false ∨ (((mg a.natAbs).size : Int) < 8 ∧ decide (((mg b.natAbs).size : Int) < 8) = false)) (s1 s2 : Bool) (es1 : sgn a = s1) (es2 : sgn b = s2) (hne : (s1 == s2) = false) (hc : b.natAbs < a.natAbs) :
  Calls Tryz.prog 26 #[.agg #[.bool na, .string sa], .agg #[.bool nb, .string sb]] w (RetI w (a + b)) := by
 have KhT := Lib.hid hT
 have Kes1 := Lib.hid es1
 have Kes2 := Lib.hid es2
 have Khne := Lib.hid hne
 have Khc := Lib.hid hc
 clear hT es1 es2 hne hc
 have H1 := Lib.hid (cCanon ha)
 have H2 := Lib.hid (cCanon hb)
 have hs1 : (mg a.natAbs).size ≤ 100000 := Nat.le_trans (szB sa.size (ha.lt (Nat.le_refl _))) h1
 have hs2 : (mg b.natAbs).size ≤ 100000 := Nat.le_trans (szB sb.size (hb.lt (Nat.le_refl _))) h2
 clear ha hb h1 h2
 have HL0 := Lib.hid ((((Below.refl w.heap.size w).alloc (Nat.le_refl _) (.cells #[.bool na, .string sa] 36)).alloc (by simp) (.cells #[.bool nb, .string sb] 36)).alloc (by simp; omega) (.cells #[.bool false, .string ⟨#[]⟩] 36))
 have HB0 := Lib.hid (((Bx.new w w.heap.size na sa rfl).alloc (.cells #[.bool nb, .string sb] 36)).alloc (.cells #[.bool false, .string ⟨#[]⟩] 36))
 have HB1 := Lib.hid ((Bx.new (w.alloc (.cells #[.bool na, .string sa] 36)) (w.heap.size + 1) nb sb (by simp)).alloc (.cells #[.bool false, .string ⟨#[]⟩] 36))
 have HB2 := Lib.hid (Bx.new ((w.alloc (.cells #[.bool na, .string sa] 36)).alloc (.cells #[.bool nb, .string sb] 36)) (w.heap.size + 1 + 1) false ⟨#[]⟩ (by simp))
 go_enter Tryz.func26, Tryz.ntmps26
 go_upto_region 1 with fail
 obtain ⟨W, hW⟩ : ∃ W, ((w.alloc (.cells #[.bool na, .string sa] 36)).alloc (.cells #[.bool nb, .string sb] 36)).alloc (.cells #[.bool false, .string ⟨#[]⟩] 36) = W := ⟨_, rfl⟩
 rw [hW] at HL0 HB0 HB1 HB2 ⊢
 clear hW
 go_cut [] (fun wx => Below w.heap.size w wx ∧ Bx wx (w.heap.size) (sgn a) (mg a.natAbs) ∧ Bx wx (w.heap.size + 1) (sgn b) (mg b.natAbs) ∧ Bx wx (w.heap.size + 1 + 1) false ⟨#[]⟩)
 case first =>
  refine wp_region_front 4 zvI (by kernel_rfl) shI (by kernel_rfl) (by kernel_rfl) (zvI_alloc _ (by kernel_rfl)) (shI_store _ (by kernel_rfl)) ?_
  intro mm BW hm1 hm2 hBW
  haveI := clm_some mm BW
  have fq0 := fun u : Clm mm BW => (HB0.out.clm hm1 hBW u).1
  have fr0 := fun u : Clm mm BW => (HB0.out.clm hm1 hBW u).2
  have fq1 := fun u : Clm mm BW => (HB1.out.clm hm1 hBW u).1
  have fr1 := fun u : Clm mm BW => (HB1.out.clm hm1 hBW u).2
  simp only [frontOf, unmade, List.take_succ_cons, List.take_zero, List.map_cons, List.map_nil]
  iterate 1 (go_big_quiet_step (fail))
  go_big_quiet_step ((go_at_call 45; exact quiet_clm hm2 H1.out _))
  iterate 1 (go_big_quiet_step (fail))
  go_big_quiet_step ((go_at_call 45; exact quiet_clm hm2 H2.out _))
  refine wpQuiet_nil ?_
  refine ⟨List.forall_mem_nil _, ?_⟩
  intro γ w9 hB9 hF
  clear hF hBW this hm1 hm2 fq0 fr0 fq1 fr1
  clear BW mm
  simp only [madesFrom, Facts, patch, List.take_succ_cons, List.take_zero, List.drop_succ_cons, List.drop_zero]
  clear γ
  have hl0 := bstep HL0.out hB9
  have bx0 := HB0.out.below hB9
  have bx1 := HB1.out.below hB9
  have bx2 := HB2.out.below hB9
  clear hB9
  obtain ⟨fx3, fy3, fz3, ft3, _⟩ := id bx0
  obtain ⟨fx6, fy6, fz6, ft6, _⟩ := id bx1
  go_wp2_with fail
  go_meet
  exact ⟨((((hl0.setCell (p := ⟨_, 0, none⟩) (Nat.le_refl _) _).setCell (p := ⟨_, 1, none⟩) (Nat.le_refl _) _).setCell (p := ⟨_, 0, none⟩) (Nat.le_succ _) _).setCell (p := ⟨_, 1, none⟩) (Nat.le_succ _) _), (bx0.set).other (by omega), (bx1.other (by omega)).set, (bx2.other (by omega)).other (by omega)⟩
 case rest =>
  obtain ⟨hl0, bx0, bx1, bx2⟩ := hcut
  obtain ⟨X1, rfl⟩ : ∃ X, X = wc := ⟨_, rfl⟩
  have HL1 := Lib.hid hl0
  have BX2 := Lib.hid bx2
  have BX0 := Lib.hid bx0
  have BX1 := Lib.hid bx1
  clear hl0 HL0 HB0 HB1 HB2
  obtain ⟨x0, x1, x2, x3, x4⟩ := bx0
  obtain ⟨y0, y1, y2, y3, y4⟩ := bx1
  obtain ⟨z0, z1, z2, z3, z4⟩ := bx2
  have FIN := Lib.hid (fun (W1 : World) (n : Bool) (t : ByteArray) (h : Below w.heap.size w W1) => (h.setCell (p := ⟨w.heap.size + 1 + 1, 0, none⟩) (by show w.heap.size ≤ w.heap.size + 1 + 1; omega) (.bool n)).setCell (p := ⟨w.heap.size + 1 + 1, 1, none⟩) (by show w.heap.size ≤ w.heap.size + 1 + 1; omega) (.string t))
  have es1 := Kes1.out
  have es2 := Kes2.out
  have hne := Khne.out
  have hc := Khc.out
  rw [es1] at x0 BX0
  rw [es2] at y0 BX1
  have HCm := Lib.hid (fun X => show Calls Tryz.prog 49 #[.string (mg a.natAbs), .string (mg b.natAbs)] X (fun e w' => e = .returned (.int .i64 1) ∧ X = w') from by
   have := rcmp_any a.natAbs b.natAbs X (Nat.le_trans hs1 (by decide)) (Nat.le_trans hs2 (by decide))
   rwa [cmpI_gt (Int.ofNat_lt.2 hc)] at this)
  have HM := Lib.hid (fun X => show Calls Tryz.prog 50 #[.string (mg a.natAbs), .string (mg b.natAbs)] X (fun e w' => e = .returned (.string (mg (a.natAbs - b.natAbs))) ∧ Below X.heap.size X w') from by
   have := rsubMag_any (mg a.natAbs) (mg b.natAbs) X hs1 (mg_mono (Nat.le_of_lt hc)) (by rw [bv_mg, bv_mg]; exact Nat.le_of_lt hc)
   rwa [bv_mg, bv_mg] at this)
  have HE := Lib.hid (adds_gt es1 es2 hne hc)
  clear es1 es2 hc
  rcases KhT.out with hT | ⟨hT, hT2⟩
  all_goals (
   go_wp2_with (go_at_call 49; refine (HCm.out _).mono ?_; rintro e w1 ⟨rfl, rfl⟩)
   refine wp_region_front 8 zvI (by kernel_rfl) shI (by kernel_rfl) (by kernel_rfl) (zvI_alloc _ (by kernel_rfl)) (shI_store _ (by kernel_rfl)) ?_
   intro mm BW hm1 hm2 hBW
   haveI := clm_some mm BW
   have fq0 := fun u : Clm mm BW => (BX0.out.clm hm1 hBW u).1
   have fr0 := fun u : Clm mm BW => (BX0.out.clm hm1 hBW u).2
   have fq1 := fun u : Clm mm BW => (BX1.out.clm hm1 hBW u).1
   have fr1 := fun u : Clm mm BW => (BX1.out.clm hm1 hBW u).2
   simp only [frontOf, unmade, List.take_succ_cons, List.take_zero, List.map_cons, List.map_nil]
   iterate 6 (go_big_quiet_step (fail))
   go_big_quiet_step ((go_at_call 50; exact quiet_clm hm2 HM.out _))
   iterate 1 (go_big_quiet_step (fail))
   refine wpQuiet_nil ?_
   refine ⟨List.forall_mem_nil _, ?_⟩
   intro γ w9 hB9 hF
   clear hF hBW this hm1 hm2 fq0 fr0 fq1 fr1
   clear BW mm
   simp only [madesFrom, Facts, patch, List.take_succ_cons, List.take_zero, List.drop_succ_cons, List.drop_zero]
   clear γ
   have hl0 := bstep HL1.out hB9
   obtain ⟨g0, g1, g2, g3, _⟩ := BX2.out.below hB9
   clear hB9 x0 x1 x2 x3 x4 y0 y1 y2 y3 y4 z0 z1 z2 z3 z4
   go_wp2
   refine bodyPost_ret (v := .agg #[.bool s1, .string (mg (a.natAbs - b.natAbs))]) (by simp [results, Tryz.results26, go_sem, g0, g1]) rfl ?_
   exact ⟨by rw [HE.out.1, HE.out.2], FIN.out _ _ _ hl0⟩)
theorem rAdd_any (na nb : Bool) (sa sb : ByteArray) (a b : Int) (w : World) (ha : Rp na sa a) (hb : Rp nb sb b) (h1 : sa.size ≤ 100000) (h2 : sb.size ≤ 100000) :
  Calls Tryz.prog 26 #[.agg #[.bool na, .string sa], .agg #[.bool nb, .string sb]] w (RetI w (a + b)) := by
 by_cases h8 : (mg a.natAbs).size < 8 ∧ (mg b.natAbs).size < 8
 ·exact rAdd_small na nb sa sb a b w ha hb h1 h2 h8
 ·have hT : decide (((mg a.natAbs).size : Int) < 8) = false ∨ (((mg a.natAbs).size : Int) < 8 ∧ decide (((mg b.natAbs).size : Int) < 8) = false) := by
   by_cases e : (mg a.natAbs).size < 8
   ·exact .inr ⟨by omega, decide_eq_false (by omega)⟩
   ·exact .inl (decide_eq_false (by omega))
  by_cases hs : sgn a = sgn b
  ·exact rAdd_same na nb sa sb a b w ha hb h1 h2 hT _ hs rfl
  ·have hne : (sgn a == sgn b) = false := beq_eq_false_iff_ne.2 hs
   rcases Nat.lt_trichotomy a.natAbs b.natAbs with hc | hc | hc
   ·exact rAdd_lt na nb sa sb a b w ha hb h1 h2 hT _ _ rfl rfl hne hc
   ·exact rAdd_eq na nb sa sb a b w ha hb h1 h2 hT _ _ rfl rfl hne hc
   ·exact rAdd_gt na nb sa sb a b w ha hb h1 h2 hT _ _ rfl rfl hne hc
end Go.Proofs.Gv
