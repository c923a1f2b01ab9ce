import Derived.Test.YtamempcabmlodaaGreatDoorRefDvS
import Derived.Test.YtamempcabmlodaaGreatDoorRefDvL
set_option maxHeartbeats 4000000
set_option maxRecDepth 100000
set_option linter.unusedSimpArgs false
set_option linter.unusedVariables false
namespace Go.Proofs.Gv
open Go Go.RowKit
section
variable {A B Q R : Nat}
theorem dsp_eq (e : B * Q + R = A) : (A : Int) = (Q : Int) * (B : Int) + R := by
 rw [← e, Nat.mul_comm]; push_cast; rfl
theorem dsp_pp (e : B * Q + R = A) (hl : R < B) : DivSpec (A : Int) (B : Int) Q R := by
 have := dsp_eq e
 exact ⟨this, .inl ⟨by omega, by omega⟩⟩
theorem dsp_nn (e : B * Q + R = A) (hl : R < B) : DivSpec (-(A : Int)) (-(B : Int)) Q (-(R : Int)) := by
 have := dsp_eq e
 exact ⟨by rw [Int.mul_neg]; omega, .inr ⟨by omega, by omega⟩⟩
theorem dsp_pn0 (e : B * Q + R = A) (hl : R < B) (h : R = 0) : DivSpec (A : Int) (-(B : Int)) (-(Q : Int)) (-(R : Int)) := by
 have := dsp_eq e
 exact ⟨by rw [Int.mul_neg, Int.neg_mul]; omega, .inr ⟨by omega, by omega⟩⟩
theorem dsp_np0 (e : B * Q + R = A) (hl : R < B) (h : R = 0) : DivSpec (-(A : Int)) (B : Int) (-(Q : Int)) (R : Int) := by
 have := dsp_eq e
 exact ⟨by rw [Int.neg_mul]; omega, .inl ⟨by omega, by omega⟩⟩
theorem dsp_pn1 (e : B * Q + R = A) (hl : R < B) (h : R ≠ 0) : DivSpec (A : Int) (-(B : Int)) (-(Q : Int) - 1) (-((B : Int) - R)) := by
 have := dsp_eq e
 exact ⟨by rw [Int.mul_neg, Int.sub_mul, Int.neg_mul, Int.one_mul]; omega, .inr ⟨by omega, by omega⟩⟩
theorem dsp_np1 (e : B * Q + R = A) (hl : R < B) (h : R ≠ 0) : DivSpec (-(A : Int)) (B : Int) (-(Q : Int) - 1) ((B : Int) - R) := by
 have := dsp_eq e
 exact ⟨by rw [Int.sub_mul, Int.neg_mul, Int.one_mul]; omega, .inl ⟨by omega, by omega⟩⟩
end
theorem dsp_of {a b a' b' q r : Int} (e1 : a = a') (e2 : b = b') (h : DivSpec a' b' q r) : DivSpec a b q r := by rw [e1, e2]; exact h
theorem sgn_f {a : Int} (h : sgn a = false) : a = (a.natAbs : Int) := by unfold sgn at h; have := of_decide_eq_false h; omega
theorem sgn_t {a : Int} (h : sgn a = true) : a = -(a.natAbs : Int) := by unfold sgn at h; have := of_decide_eq_true h; omega
theorem rDiv_any (na nb : Bool) (sa sb : ByteArray) (a b q r : Int) (w : World) (ha : Rp na sa a) (hb : Rp nb sb b) (h1 : sa.size ≤ 90000) (h2 : sb.size ≤ 90000) (h0 : b.natAbs ≠ 0) (hd : DivSpec a b q r) :
  Calls Tryz.prog 55 #[.agg #[.bool na, .string sa], .agg #[.bool nb, .string sb]] w (RetDv w q r) := by
 have e := Nat.div_add_mod a.natAbs b.natAbs
 have hl := Nat.mod_lt a.natAbs (Nat.pos_of_ne_zero h0)
 have ways : (((mg a.natAbs).size : Int) < 8 ∧ ((mg b.natAbs).size : Int) < 8) ∨ (decide (((mg a.natAbs).size : Int) < 8) = false ∨ (((mg a.natAbs).size : Int) < 8 ∧ decide (((mg b.natAbs).size : Int) < 8) = false)) := by
  by_cases h8 : ((mg a.natAbs).size : Int) < 8
  ·by_cases h9 : ((mg b.natAbs).size : Int) < 8
   ·exact .inl ⟨h8, h9⟩
   ·exact .inr (.inr ⟨h8, decide_eq_false h9⟩)
  ·exact .inr (.inl (decide_eq_false h8))
 have fin : ∀ q' r', DivSpec a b q' r' → Calls Tryz.prog 55 #[.agg #[.bool na, .string sa], .agg #[.bool nb, .string sb]] w (RetDv w q' r') →
   Calls Tryz.prog 55 #[.agg #[.bool na, .string sa], .agg #[.bool nb, .string sb]] w (RetDv w q r) := fun q' r' hd' hc => by
  obtain ⟨rfl, rfl⟩ := div_uniq hd hd'
  exact hc
 cases es1 : sgn a <;> cases es2 : sgn b
 ·refine fin _ _ ?_ (ways.elim (fun h => rdv_S_ff na nb sa sb a b w ha hb h1 h2 h0 es1 es2 h.1 h.2) (fun h => rdv_L_ff na nb sa sb a b w ha hb h1 h2 h0 es1 es2 h))
  exact dsp_of (sgn_f es1) (sgn_f es2) (dsp_pp e hl)
 ·by_cases hR : a.natAbs % b.natAbs = 0
  ·refine fin _ _ ?_ (ways.elim (fun h => rdv_S_ft0 na nb sa sb a b w ha hb h1 h2 h0 es1 es2 hR h.1 h.2) (fun h => rdv_L_ft0 na nb sa sb a b w ha hb h1 h2 h0 es1 es2 hR h))
   exact dsp_of (sgn_f es1) (sgn_t es2) (dsp_pn0 e hl hR)
  ·refine fin _ _ ?_ (ways.elim (fun h => rdv_S_ft1 na nb sa sb a b w ha hb h1 h2 h0 es1 es2 hR h.1 h.2) (fun h => rdv_L_ft1 na nb sa sb a b w ha hb h1 h2 h0 es1 es2 hR h))
   exact dsp_of (sgn_f es1) (sgn_t es2) (dsp_pn1 e hl hR)
 ·by_cases hR : a.natAbs % b.natAbs = 0
  ·refine fin _ _ ?_ (ways.elim (fun h => rdv_S_tf0 na nb sa sb a b w ha hb h1 h2 h0 es1 es2 hR h.1 h.2) (fun h => rdv_L_tf0 na nb sa sb a b w ha hb h1 h2 h0 es1 es2 hR h))
   exact dsp_of (sgn_t es1) (sgn_f es2) (dsp_np0 e hl hR)
  ·refine fin _ _ ?_ (ways.elim (fun h => rdv_S_tf1 na nb sa sb a b w ha hb h1 h2 h0 es1 es2 hR h.1 h.2) (fun h => rdv_L_tf1 na nb sa sb a b w ha hb h1 h2 h0 es1 es2 hR h))
   exact dsp_of (sgn_t es1) (sgn_f es2) (dsp_np1 e hl hR)
 ·refine fin _ _ ?_ (ways.elim (fun h => rdv_S_tt na nb sa sb a b w ha hb h1 h2 h0 es1 es2 h.1 h.2) (fun h => rdv_L_tt na nb sa sb a b w ha hb h1 h2 h0 es1 es2 h))
  exact dsp_of (sgn_t es1) (sgn_t es2) (dsp_nn e hl)
end Go.Proofs.Gv
namespace Go.Proofs.Gv
open Go Go.RowKit
theorem gtmod_nat (x y : Nat) : Int.tmod (x : Int) (y : Int) = ((x % y : Nat) : Int) := rfl
theorem gcd_next (x y : Nat) : Nat.gcd y (x % y) = Nat.gcd x y := by
 rw [Nat.gcd_comm y, ← Nat.gcd_rec, Nat.gcd_comm]
theorem sz7 {x : Nat} (h : (mg x).size ≤ 7) : x < 72057594037927936 := by
 have la := bv_lt (byt x)
 rw [bv_byt, ← size_mgL] at la
 exact Nat.lt_of_lt_of_le la (Nat.le_trans (Nat.pow_le_pow_right (by decide) h) (by decide))
theorem gcdSm (x : Nat) (h : (mg x).size ≤ 7) (X : World) : Calls Tryz.prog 84 #[.string (mg x)] X fun e w' => e = .returned (.int .i64 (x : Nat)) ∧ X = w' := by
 have := rsmall_any (mg x) X (by omega) (by rw [bv_mg]; have := sz7 h; omega)
 rwa [bv_mg] at this
theorem gcdOf (x : Nat) (h : x < 72057594037927936) (X : World) : Calls Tryz.prog 44 #[.int .i64 x] X fun e w' => e = .returned (.agg #[.bool false, .string (mg x)]) ∧ Below X.heap.size X w' := by
 have := rOf_any (x : Int) X (by omega) (by omega)
 unfold RetI at this
 rwa [show sgn (x : Int) = false from decide_eq_false (by omega), Int.natAbs_natCast] at this
theorem ret_gcd {w wr : World} {G x : Nat} (h : x = G) (hb : Below w.heap.size w wr) : RetI w (G : Nat) (.returned (.agg #[.bool false, .string (mg x)])) wr := by
 subst h
 exact ⟨by rw [show sgn (x : Int) = false from decide_eq_false (by omega), Int.natAbs_natCast], hb⟩
theorem rGcd_any (na nb : Bool) (sa sb : ByteArray) (w : World) (ha : sa.size ≤ 90000) (hb : sb.size ≤ 90000) :
  Calls Tryz.prog 70 #[.agg #[.bool na, .string sa], .agg #[.bool nb, .string sb]] w (RetI w (Nat.gcd (bv sa.data.toList) (bv sb.data.toList) : Nat)) := by
 have HT1 := Lib.hid (fun X => (rtrim_any sa X (by omega)).mono fun e w' h => (⟨h.1, h.2 ▸ Below.refl _ _⟩ : e = .returned (.string (mg (bv sa.data.toList))) ∧ Below X.heap.size X w'))
 have HT2 := Lib.hid (fun X => (rtrim_any sb X (by omega)).mono fun e w' h => (⟨h.1, h.2 ▸ Below.refl _ _⟩ : e = .returned (.string (mg (bv sb.data.toList))) ∧ Below X.heap.size X w'))
 have hs1 : (mg (bv sa.data.toList)).size ≤ 90000 := Nat.le_trans (size_mg (by have := bv_lt sa.data.toList; simpa using this)) ha
 have hs2 : (mg (bv sb.data.toList)).size ≤ 90000 := Nat.le_trans (size_mg (by have := bv_lt sb.data.toList; simpa using this)) hb
 obtain ⟨x0, hx0⟩ : ∃ x, bv sa.data.toList = x := ⟨_, rfl⟩
 obtain ⟨y0, hy0⟩ : ∃ y, bv sb.data.toList = y := ⟨_, rfl⟩
 obtain ⟨G, hG⟩ : ∃ G, Nat.gcd x0 y0 = G := ⟨_, rfl⟩
 rw [hx0] at HT1 hs1 ⊢
 rw [hy0] at HT2 hs2 ⊢
 rw [hG]
 have HG := Lib.hid hG
 have HS1 := Lib.hid hs1
 have HS2 := Lib.hid hs2
 clear hx0 hy0 hG hs1 hs2 ha hb
 have HL0 := Lib.hid ((((Below.refl w.heap.size w).alloc (Nat.le_refl _) (.cells #[.bool na, .string sa] 23)).alloc (by simp) (.cells #[.bool nb, .string sb] 23)).alloc (by simp; omega) (.cells #[.bool false, .string ⟨#[]⟩] 23))
 have HB0 := Lib.hid (((Bx.new w w.heap.size na sa rfl).alloc (.cells #[.bool nb, .string sb] 23)).alloc (.cells #[.bool false, .string ⟨#[]⟩] 23))
 have HB1 := Lib.hid ((Bx.new (w.alloc (.cells #[.bool na, .string sa] 23)) (w.heap.size + 1) nb sb (by simp)).alloc (.cells #[.bool false, .string ⟨#[]⟩] 23))
 have HB2 := Lib.hid (Bx.new ((w.alloc (.cells #[.bool na, .string sa] 23)).alloc (.cells #[.bool nb, .string sb] 23)) (w.heap.size + 1 + 1) false ⟨#[]⟩ (by simp))
 go_enter Tryz.func70, Tryz.ntmps70
 go_upto_region 1 with fail
 obtain ⟨W, hW⟩ : ∃ W, ((w.alloc (.cells #[.bool na, .string sa] 23)).alloc (.cells #[.bool nb, .string sb] 23)).alloc (.cells #[.bool false, .string ⟨#[]⟩] 23) = W := ⟨_, rfl⟩
 rw [hW] at HL0 HB0 HB1 HB2 ⊢
 clear hW
 haveI := cls_some W
 have fq0 : ∀ u : Cl W, u.x.cell? ⟨w.heap.size, 1, none⟩ = some (.string sa) := fun u => (HB0.out.below u.h).c1
 have fq1 : ∀ u : Cl W, u.x.cell? ⟨w.heap.size + 1, 1, none⟩ = some (.string sb) := fun u => (HB1.out.below u.h).c1
 refine wp_region_cls (by kernel_rfl) ?_
 repeat (first | go_big_quiet_step (fail) | go_big_quiet_step ((go_at_call_of 101 (Value.string sa); exact quiet_cls HT1.out _)) | go_big_quiet_step ((go_at_call_of 101 (Value.string sb); exact quiet_cls HT2.out _)))
 refine wpQuiet_nil ?_
 intro w1 hw9
 have hB : Below W.heap.size W w1 := by obtain ⟨u, rfl⟩ := hw9; exact u.h
 clear hw9 fq0 fq1
 have HL1 := Lib.hid (bstep HL0.out hB)
 have HR1 := Lib.hid (HB2.out.below hB)
 clear hB HL0 HB0 HB1 HB2 this HT1 HT2
 obtain ⟨b4, hb4⟩ : ∃ b, w.heap.size + 1 + 1 = b := ⟨_, rfl⟩
 have HB4 := Lib.hid (show w.heap.size ≤ b4 by omega)
 rw [hb4] at HR1 ⊢
 clear hb4
 go_wp2
 go_loopg [5, 6] (y0 + 1) (fun gg v5 v6 wr => ∃ x y : Nat, v5 = .string (mg x) ∧ v6 = .string (mg y) ∧ Nat.gcd x y = G ∧ (mg x).size ≤ 90000 ∧ (mg y).size ≤ 90000 ∧ y < gg ∧ Bx wr b4 false ⟨#[]⟩ ∧ Below w.heap.size w wr)
 case atStart => exact ⟨x0, y0, rfl, rfl, HG.out, HS1.out, HS2.out, Nat.lt_succ_self _, HR1.out, HL1.out⟩
 case round =>
  clear HR1 HL1 HG HS1 HS2
  obtain ⟨x, y, rfl, rfl, hG, hx, hy, hg, hr, hb⟩ := hrel
  have HG := Lib.hid hG
  have HX := Lib.hid hx
  have HY := Lib.hid hy
  have HR := Lib.hid hr
  have HB := Lib.hid hb
  have HGG := Lib.hid hg
  obtain ⟨r0, r1, r2, r3, _⟩ := id hr
  clear hG hx hy hr hb hg
  by_cases h0 : y = 0
  ·subst h0
   have hE := mg_empty
   have HF := Lib.hid (show x = G by rw [← HG.out, Nat.gcd_zero_right])
   go_wp2
   refine bodyPost_ret (v := .agg #[.bool false, .string (mg x)]) (by simp [results, Tryz.results70, go_sem, r0, r1]) rfl ?_
   exact ret_gcd HF.out ((HB.out.setCell (p := ⟨b4, 0, none⟩) HB4.out _).setCell (p := ⟨b4, 1, none⟩) HB4.out _)
  ·have hE := mg_full h0
   have HM := Lib.hid (fun X => rdivMag_any x y X (by omega) HX.out HY.out)
   have HYP := Lib.hid h0
   clear h0
   by_cases h7 : (mg x).size ≤ 7 ∧ (mg y).size ≤ 7
   ·have t1 : decide ((7 : Int) < (mg x).size) = false := decide_eq_false (by omega)
    have t2 : decide ((7 : Int) < (mg y).size) = false := decide_eq_false (by omega)
    have HA := Lib.hid (fun X => gcdSm x h7.1 X)
    have HC := Lib.hid (fun X => gcdSm y h7.2 X)
    have HXL := Lib.hid (sz7 h7.1)
    have HYL := Lib.hid (sz7 h7.2)
    clear h7
    go_wp2_with (first
     | (go_at_call_of 84 (Value.string (mg x)); refine (HA.out _).mono ?_; rintro e w2 ⟨rfl, rfl⟩)
     | (go_at_call_of 84 (Value.string (mg y)); refine (HC.out _).mono ?_; rintro e w3 ⟨rfl, rfl⟩))
    clear r0 r1 r2 r3 t1 t2 hE
    obtain ⟨wo, rfl⟩ : ∃ wo : World, wo = wr := ⟨_, rfl⟩
    go_loopg [9, 10] (y + 1) (fun gg v9 v10 wr => ∃ m n : Nat, v9 = .int .i64 m ∧ v10 = .int .i64 n ∧ Nat.gcd m n = G ∧ m < 72057594037927936 ∧ n < 72057594037927936 ∧ n < gg ∧ Bx wr b4 false ⟨#[]⟩ ∧ Below w.heap.size w wr)
    case atStart => exact ⟨x, y, rfl, rfl, HG.out, HXL.out, HYL.out, Nat.lt_succ_self _, HR.out, HB.out⟩
    case round =>
     clear HXL HYL HA HC HM HR HB HG
     obtain ⟨m, n, rfl, rfl, hG, hm, hn, hg, hr, hb⟩ := hrel
     have HG := Lib.hid hG
     have HR := Lib.hid hr
     have HB := Lib.hid hb
     have HGG := Lib.hid hg
     have HML := Lib.hid hm
     have HNL := Lib.hid hn
     clear hG hr hb hg
     by_cases h0 : n = 0
     ·subst h0
      have HF := Lib.hid (show m = G by rw [← HG.out, Nat.gcd_zero_right])
      have HO := Lib.hid (fun X => gcdOf m HML.out X)
      clear hm hn
      go_wp2_with (go_at_call 44; refine (HO.out _).mono ?_; rintro e w4 ⟨rfl, hb⟩; have HR4 := Lib.hid (HR.out.below hb); have HB4' := Lib.hid (bstep HB.out hb); clear hb; obtain ⟨r0, r1, r2, r3, _⟩ := id HR4.out)
      refine bodyPost_ret (v := .agg #[.bool false, .string (mg m)]) (by simp [results, Tryz.results70, go_sem, r0, r1]) rfl ?_
      exact ret_gcd HF.out ((HB4'.out.setCell (p := ⟨b4, 0, none⟩) HB4.out _).setCell (p := ⟨b4, 1, none⟩) HB4.out _)
     ·have t1 : (0 : Int) < n := by omega
      have t2 : ¬ (n : Int) = 0 := by omega
      have HMOD := Lib.hid (Nat.mod_lt m (Nat.pos_of_ne_zero h0))
      have HGN := Lib.hid (show Nat.gcd n (m % n) = G by rw [gcd_next]; exact HG.out)
      have hmd := gtmod_nat m n
      have hwm : wrap64 ((m % n : Nat) : Int) = ((m % n : Nat) : Int) := by have := HMOD.out; unfold wrap64; omega
      clear hm hn h0
      go_wp2
      go_quiet (fail)
      go_wp2
      go_roundg n
      case rel => exact ⟨n, m % n, rfl, rfl, HGN.out, HNL.out, Nat.lt_trans HMOD.out HNL.out, HMOD.out, (HR.out.below (below_drewN (Below.refl _ _) _)), bstep HB.out (below_drewN (Below.refl _ _) _)⟩
      case measure => exact HGG.out
   ·have HMOD := Lib.hid (Nat.mod_lt x (Nat.pos_of_ne_zero HYP.out))
    have HGN := Lib.hid (show Nat.gcd y (x % y) = G by rw [gcd_next]; exact HG.out)
    have HSM := Lib.hid (show (mg (x % y)).size ≤ 90000 from Nat.le_trans (mg_mono (Nat.mod_le _ _)) HX.out)
    have hw : decide ((7 : Int) < (mg x).size) = true ∨ (decide ((7 : Int) < (mg x).size) = false ∧ decide ((7 : Int) < (mg y).size) = true) := by
     by_cases hx : (7 : Int) < (mg x).size
     ·exact .inl (decide_eq_true hx)
     ·exact .inr ⟨decide_eq_false hx, decide_eq_true (by omega)⟩
    clear h7
    rcases hw with t1 | ⟨t1, t2⟩
    all_goals (
     go_wp2_with (go_at_call 85; refine (HM.out _).mono ?_; rintro e w2 ⟨rfl, hb⟩; have HR2 := Lib.hid (HR.out.below hb); have HB2 := Lib.hid (bstep HB.out hb); clear hb)
     go_roundg y
     case rel => exact ⟨y, x % y, rfl, rfl, HGN.out, HY.out, HSM.out, HMOD.out, HR2.out, HB2.out⟩
     case measure => exact HGG.out)
end Go.Proofs.Gv
