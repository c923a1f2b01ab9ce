import Derived.Test.YtfhncfphphieiaaGreatRefMag
import Derived.Deep.RegionHeld3
set_option maxHeartbeats 4000000
set_option maxRecDepth 100000
set_option linter.unusedSimpArgs false
set_option linter.unusedVariables false
namespace Go.Proofs.Gv
open Go Go.RowKit
theorem sgn_mul {a b : Int} (ha : a ≠ 0) (hb : b ≠ 0) : sgn (a * b) = (sgn a != sgn b) := by
 unfold sgn
 rcases Int.lt_or_gt_of_ne ha with h1 | h1 <;> rcases Int.lt_or_gt_of_ne hb with h2 | h2
 ·rw [decide_eq_true h1, decide_eq_true h2, decide_eq_false (by have := Int.mul_pos_of_neg_of_neg h1 h2; omega)]; rfl
 ·rw [decide_eq_true h1, decide_eq_false (by omega : ¬ b < 0), decide_eq_true (Int.mul_neg_of_neg_of_pos h1 h2)]; rfl
 ·rw [decide_eq_false (by omega : ¬ a < 0), decide_eq_true h2, decide_eq_true (Int.mul_neg_of_pos_of_neg h1 h2)]; rfl
 ·rw [decide_eq_false (by omega : ¬ a < 0), decide_eq_false (by omega : ¬ b < 0), decide_eq_false (by have := Int.mul_pos h1 h2; omega)]; rfl
theorem rMul_any (na nb : Bool) (sa sb : ByteArray) (a b : Int) (w : World) (ha : Rp na sa a) (hb : Rp nb sb b) (h1 : sa.size ≤ 100000) (h2 : sb.size ≤ 100000) :
  Calls Tryz.prog 69 #[.agg #[.bool na, .string sa], .agg #[.bool nb, .string sb]] w (RetI w (a * b)) := by
 have H1 := Lib.hid (cCanon ha)
 have H2 := Lib.hid (cCanon hb)
 have hs1 : (mg a.natAbs).size ≤ 100000 := Nat.le_trans (szB sa.size (ha.lt (Nat.le_refl _))) h1
 have hs2 : (mg b.natAbs).size ≤ 100000 := Nat.le_trans (szB sb.size (hb.lt (Nat.le_refl _))) h2
 clear ha hb h1 h2
 have HL0 := Lib.hid ((((Below.refl w.heap.size w).alloc (Nat.le_refl _) (.cells #[.bool na, .string sa] 36)).alloc (by simp) (.cells #[.bool nb, .string sb] 36)).alloc (by simp; omega) (.cells #[.bool false, .string ⟨#[]⟩] 36))
 have HB0 := Lib.hid (((Bx.new w w.heap.size na sa rfl).alloc (.cells #[.bool nb, .string sb] 36)).alloc (.cells #[.bool false, .string ⟨#[]⟩] 36))
 have HB1 := Lib.hid ((Bx.new (w.alloc (.cells #[.bool na, .string sa] 36)) (w.heap.size + 1) nb sb (by simp)).alloc (.cells #[.bool false, .string ⟨#[]⟩] 36))
 have HB2 := Lib.hid (Bx.new ((w.alloc (.cells #[.bool na, .string sa] 36)).alloc (.cells #[.bool nb, .string sb] 36)) (w.heap.size + 1 + 1) false ⟨#[]⟩ (by simp))
 go_enter Tryz.func69, Tryz.ntmps69
 go_upto_region 1 with fail
 obtain ⟨W, hW⟩ : ∃ W, ((w.alloc (.cells #[.bool na, .string sa] 36)).alloc (.cells #[.bool nb, .string sb] 36)).alloc (.cells #[.bool false, .string ⟨#[]⟩] 36) = W := ⟨_, rfl⟩
 rw [hW] at HL0 HB0 HB1 HB2 ⊢
 clear hW
 go_cut [] (fun wx => Below w.heap.size w wx ∧ Bx wx (w.heap.size) (sgn a) (mg a.natAbs) ∧ Bx wx (w.heap.size + 1) (sgn b) (mg b.natAbs) ∧ Bx wx (w.heap.size + 1 + 1) false ⟨#[]⟩)
 case first =>
  have hl0 := HL0.out
  have bx0 := HB0.out
  have bx1 := HB1.out
  have bx2 := HB2.out
  obtain ⟨fx3, fy3, fz3, ft3, _⟩ := id bx0
  obtain ⟨fx6, fy6, fz6, ft6, _⟩ := id bx1
  have tk0 := Lib.hid trivial
  go_region_with (first | (go_at_call 45; have hz := tk0.out; clear hz; refine (H1.out _).mono ?_; rintro e w90 ⟨rfl, hb⟩; have tk1 := Lib.hid trivial; clear tk0; replace bx0 := bx0.below hb; replace bx1 := bx1.below hb; replace bx2 := bx2.below hb; replace hl0 := bstep hl0 hb; obtain ⟨fx3, fy3, fz3, ft3, _⟩ := id bx0; obtain ⟨fx6, fy6, fz6, ft6, _⟩ := id bx1) | (go_at_call 45; have hz := tk1.out; clear hz; refine (H2.out _).mono ?_; rintro e w91 ⟨rfl, hb⟩; clear tk1; replace bx0 := bx0.below hb; replace bx1 := bx1.below hb; replace bx2 := bx2.below hb; replace hl0 := bstep hl0 hb; obtain ⟨fx3, fy3, fz3, ft3, _⟩ := id bx0; obtain ⟨fx6, fy6, fz6, ft6, _⟩ := id bx1))
  all_goals (go_wp2_with fail; go_meet)
  all_goals refine ⟨((((hl0.setCell (p := ⟨_, 0, none⟩) (Nat.le_refl _) _).setCell (p := ⟨_, 1, none⟩) (Nat.le_refl _) _).setCell (p := ⟨_, 0, none⟩) (Nat.le_succ _) _).setCell (p := ⟨_, 1, none⟩) (Nat.le_succ _) _), (bx0.set).other (by omega), (bx1.other (by omega)).set, (bx2.other (by omega)).other (by omega)⟩
 case rest =>
  obtain ⟨hl0, bx0, bx1, bx2⟩ := hcut
  obtain ⟨X1, rfl⟩ : ∃ X, X = wc := ⟨_, rfl⟩
  have HL1 := Lib.hid hl0
  have BX2 := Lib.hid bx2
  have BX0 := Lib.hid bx0
  have BX1 := Lib.hid bx1
  clear hl0 HL0 HB0 HB1 HB2
  obtain ⟨x0, x1, x2, x3, x4⟩ := bx0
  obtain ⟨y0, y1, y2, y3, y4⟩ := bx1
  obtain ⟨z0, z1, z2, z3, z4⟩ := bx2
  have FIN := Lib.hid (fun (W1 : World) (n : Bool) (t : ByteArray) (h : Below w.heap.size w W1) => (h.setCell (p := ⟨w.heap.size + 1 + 1, 0, none⟩) (by show w.heap.size ≤ w.heap.size + 1 + 1; omega) (.bool n)).setCell (p := ⟨w.heap.size + 1 + 1, 1, none⟩) (by show w.heap.size ≤ w.heap.size + 1 + 1; omega) (.string t))
  by_cases ha0 : a = 0
  ·subst ha0
   have hE := mg_empty
   rw [show (0 : Int).natAbs = 0 from rfl] at x1
   go_wp2
   refine bodyPost_ret (v := .agg #[.bool false, .string ⟨#[]⟩]) (by simp [results, Tryz.results69, go_sem, z0, z1]) rfl ?_
   exact ⟨by rw [Int.zero_mul, show (0 : Int).natAbs = 0 from rfl, mg_zero]; rfl, FIN.out _ _ _ HL1.out⟩
  have hEa := mg_full (show a.natAbs ≠ 0 by omega)
  by_cases hb0 : b = 0
  ·subst hb0
   have hE := mg_empty
   rw [show (0 : Int).natAbs = 0 from rfl] at y1
   clear ha0
   go_wp2
   refine bodyPost_ret (v := .agg #[.bool false, .string ⟨#[]⟩]) (by simp [results, Tryz.results69, go_sem, z0, z1]) rfl ?_
   exact ⟨by rw [Int.mul_zero, show (0 : Int).natAbs = 0 from rfl, mg_zero]; rfl, FIN.out _ _ _ HL1.out⟩
  have hEb := mg_full (show b.natAbs ≠ 0 by omega)
  have HSG := Lib.hid (sgn_mul ha0 hb0)
  have la := bv_lt (byt a.natAbs)
  have lb := bv_lt (byt b.natAbs)
  rw [bv_byt, ← size_mgL] at la lb
  have hl0 := HL1.out
  have bx0' := BX0.out
  have bx1' := BX1.out
  have bx2' := BX2.out
  by_cases h8 : (mg a.natAbs).size + (mg b.natAbs).size < 8
  ·have h8I : ((mg a.natAbs).size : Int) + (mg b.natAbs).size < 8 := by omega
   have lm : a.natAbs * b.natAbs < 256 ^ 7 := Nat.lt_of_lt_of_le (mul_lt_pow8 la lb) (Nat.pow_le_pow_right (by decide) (by omega))
   have lm2 : (a * b).natAbs < 72057594037927936 := by rw [Int.natAbs_mul]; exact lm
   have lA : a.natAbs < 9223372036854775808 := Nat.lt_of_lt_of_le la (Nat.le_trans (Nat.pow_le_pow_right (by decide) (show (mg a.natAbs).size ≤ 7 by omega)) (by decide))
   have lB : b.natAbs < 9223372036854775808 := Nat.lt_of_lt_of_le lb (Nat.le_trans (Nat.pow_le_pow_right (by decide) (show (mg b.natAbs).size ≤ 7 by omega)) (by decide))
   have HV1 := Lib.hid (fun X => rvalue_any a X lA)
   have HV2 := Lib.hid (fun X => rvalue_any b X lB)
   have HOf := Lib.hid (fun X => show Calls Tryz.prog 46 #[.int .i64 (a * b)] X (fun e w' => e = .returned (.agg #[.bool (sgn (a * b)), .string (mg (a * b).natAbs)]) ∧ Below X.heap.size X w') from rOf_any (a * b) X (by omega) (by omega))
   have hwm : IntKind.i64.wrap (a * b) = a * b := by rw [IntKind.wrap_i64]; omega
   have hwm2 : wrap64 (a * b) = a * b := by unfold wrap64; omega
   clear la lb lm lm2 lA lB h8 ha0 hb0 HSG
   have bx0 := bx0'
   have bx1 := bx1'
   have bx2 := bx2'
   have tk0 := Lib.hid trivial
   go_wp2_with fail
   go_region_held3 (fun w' => w'.cell? ⟨w.heap.size, 0, none⟩ = some (.bool (sgn a)) ∧ w'.cell? ⟨w.heap.size, 1, none⟩ = some (.string (mg a.natAbs)) ∧ w'.cell? ⟨w.heap.size + 1, 0, none⟩ = some (.bool (sgn b)) ∧ w'.cell? ⟨w.heap.size + 1, 1, none⟩ = some (.string (mg b.natAbs))) (first | exact ⟨f0, f1, f2, f3⟩ | exact ⟨x0, x1, y0, y1⟩ | exact ⟨(bx0.other (by omega)).c0, (bx0.other (by omega)).c1, (bx1.other (by omega)).c0, (bx1.other (by omega)).c1⟩ | (go_keep; done)) (first | (go_at_call 47; have hz := tk0.out; clear hz; refine (HV1.out _).mono ?_; rintro e w90 ⟨rfl, hb⟩; have tk1 := Lib.hid trivial; clear tk0; replace bx0 := bx0.below hb; replace bx1 := bx1.below hb; replace bx2 := bx2.below hb; replace hl0 := bstep hl0 hb; obtain ⟨f0, f1, _, _, _⟩ := id bx0; obtain ⟨f2, f3, _, _, _⟩ := id bx1; obtain ⟨g0, g1, g2, g3, _⟩ := id bx2) | (go_at_call 47; have hz := tk1.out; clear hz; refine (HV2.out _).mono ?_; rintro e w91 ⟨rfl, hb⟩; clear tk1; replace bx0 := bx0.below hb; replace bx1 := bx1.below hb; replace bx2 := bx2.below hb; replace hl0 := bstep hl0 hb; obtain ⟨f0, f1, _, _, _⟩ := id bx0; obtain ⟨f2, f3, _, _, _⟩ := id bx1; obtain ⟨g0, g1, g2, g3, _⟩ := id bx2) | (go_at_call 46; refine (HOf.out _).mono ?_; rintro e w92 ⟨rfl, hb⟩; replace bx0 := bx0.below hb; replace bx1 := bx1.below hb; replace bx2 := bx2.below hb; replace hl0 := bstep hl0 hb; obtain ⟨f0, f1, _, _, _⟩ := id bx0; obtain ⟨f2, f3, _, _, _⟩ := id bx1; obtain ⟨g0, g1, g2, g3, _⟩ := id bx2))
   all_goals (
    go_wp2
    refine bodyPost_ret (v := .agg #[.bool (sgn (a * b)), .string (mg (a * b).natAbs)]) (by simp [results, Tryz.results69, go_sem, g0, g1]) rfl ?_
    exact ⟨rfl, FIN.out _ _ _ hl0⟩)
  ·have h8I : decide (((mg a.natAbs).size : Int) + (mg b.natAbs).size < 8) = false := decide_eq_false (by omega)
   have HM := Lib.hid (fun X => show Calls Tryz.prog 98 #[.string (mg a.natAbs), .string (mg b.natAbs)] X (fun e w' => e = .returned (.string (mg (a.natAbs * b.natAbs))) ∧ Below X.heap.size X w') from by
    have := rmulMag_rows (mg a.natAbs) (mg b.natAbs) X hs1 hs2
    rwa [bv_mg, bv_mg] at this)
   have HAB := Lib.hid (Int.natAbs_mul a b)
   clear la lb h8 ha0 hb0
   have bx0 := bx0'
   have bx1 := bx1'
   have bx2 := bx2'
   go_wp2_with fail
   go_region_held3 (fun w' => w'.cell? ⟨w.heap.size, 0, none⟩ = some (.bool (sgn a)) ∧ w'.cell? ⟨w.heap.size, 1, none⟩ = some (.string (mg a.natAbs)) ∧ w'.cell? ⟨w.heap.size + 1, 0, none⟩ = some (.bool (sgn b)) ∧ w'.cell? ⟨w.heap.size + 1, 1, none⟩ = some (.string (mg b.natAbs))) (first | exact ⟨f0, f1, f2, f3⟩ | exact ⟨x0, x1, y0, y1⟩ | exact ⟨(bx0.other (by omega)).c0, (bx0.other (by omega)).c1, (bx1.other (by omega)).c0, (bx1.other (by omega)).c1⟩ | (go_keep; done)) (first | (go_at_call 98; refine (HM.out _).mono ?_; rintro e w90 ⟨rfl, hb⟩; replace bx0 := bx0.below hb; replace bx1 := bx1.below hb; replace bx2 := bx2.below hb; replace hl0 := bstep hl0 hb; obtain ⟨f0, f1, _, _, _⟩ := id bx0; obtain ⟨f2, f3, _, _, _⟩ := id bx1; obtain ⟨g0, g1, g2, g3, _⟩ := id bx2))
   all_goals (
    go_wp2
    refine bodyPost_ret (v := .agg #[.bool (!(sgn a == sgn b)), .string (mg (a.natAbs * b.natAbs))]) (by simp [results, Tryz.results69, go_sem, g0, g1]) rfl ?_
    exact ⟨by rw [HSG.out, HAB.out]; rfl, FIN.out _ _ _ hl0⟩)
end Go.Proofs.Gv
