/- The reference implementation of integers: Div. -/
import Derived.Test.YtamempcabmlodaaGreatDoorRefDvS
import Derived.Test.YtamempcabmlodaaGreatDoorRefDvL
import Derived.Test.YtamempcabmlodaaGreatDoorRefAdd
import Derived.Test.YtamempcabmlodaaGreatDoorRefDvKP
import Derived.Test.YtamempcabmlodaaGreatDoorAddP
import Derived.Test.YtamempcabmlodaaGreatDoorMulP
import Derived.Test.YtamempcabmlodaaGreatDoorBuilderP
import Derived.Laws.BitsLemmas
import Derived.Test.YtamempcabmlodaaGreatDoorRefMag
import Derived.Test.YtamempcabmlodaaGreatDoorPrint
import Derived.Test.YtamempcabmlodaaGreatDoorRatTabP
set_option linter.unusedSimpArgs false
set_option linter.unusedVariables false
namespace Go.Proofs.Gv
open Go Go.RowKit

section
variable {A B Q R : Nat}
theorem dsp_eq (e : B * Q + R = A) : (A : Int) = (Q : Int) * (B : Int) + R := by
  rw [← e, Nat.mul_comm]; push_cast; rfl
theorem dsp_pp (e : B * Q + R = A) (hl : R < B) : DivSpec (A : Int) (B : Int) Q R := by
  have := dsp_eq e
  exact ⟨this, .inl ⟨by omega, by omega⟩⟩
theorem dsp_nn (e : B * Q + R = A) (hl : R < B) : DivSpec (-(A : Int)) (-(B : Int)) Q (-(R : Int)) := by
  have := dsp_eq e
  exact ⟨by rw [Int.mul_neg]; omega, .inr ⟨by omega, by omega⟩⟩
theorem dsp_pn0 (e : B * Q + R = A) (hl : R < B) (h : R = 0) : DivSpec (A : Int) (-(B : Int)) (-(Q : Int)) (-(R : Int)) := by
  have := dsp_eq e
  exact ⟨by rw [Int.mul_neg, Int.neg_mul]; omega, .inr ⟨by omega, by omega⟩⟩
theorem dsp_np0 (e : B * Q + R = A) (hl : R < B) (h : R = 0) : DivSpec (-(A : Int)) (B : Int) (-(Q : Int)) (R : Int) := by
  have := dsp_eq e
  exact ⟨by rw [Int.neg_mul]; omega, .inl ⟨by omega, by omega⟩⟩
theorem dsp_pn1 (e : B * Q + R = A) (hl : R < B) (h : R ≠ 0) : DivSpec (A : Int) (-(B : Int)) (-(Q : Int) - 1) (-((B : Int) - R)) := by
  have := dsp_eq e
  exact ⟨by rw [Int.mul_neg, Int.sub_mul, Int.neg_mul, Int.one_mul]; omega, .inr ⟨by omega, by omega⟩⟩
theorem dsp_np1 (e : B * Q + R = A) (hl : R < B) (h : R ≠ 0) : DivSpec (-(A : Int)) (B : Int) (-(Q : Int) - 1) ((B : Int) - R) := by
  have := dsp_eq e
  exact ⟨by rw [Int.sub_mul, Int.neg_mul, Int.one_mul]; omega, .inl ⟨by omega, by omega⟩⟩
end
theorem dsp_of {a b a' b' q r : Int} (e1 : a = a') (e2 : b = b') (h : DivSpec a' b' q r) : DivSpec a b q r := by rw [e1, e2]; exact h
theorem sgn_f {a : Int} (h : sgn a = false) : a = (a.natAbs : Int) := by unfold sgn at h; have := of_decide_eq_false h; omega
theorem sgn_t {a : Int} (h : sgn a = true) : a = -(a.natAbs : Int) := by unfold sgn at h; have := of_decide_eq_true h; omega

theorem rDiv_any (na nb : Bool) (sa sb : ByteArray) (a b q r : Int) (w : World) (ha : Rp na sa a) (hb : Rp nb sb b) (h1 : sa.size ≤ 90000) (h2 : sb.size ≤ 90000) (h0 : b.natAbs ≠ 0) (hd : DivSpec a b q r) :
    Calls Tryz.prog 55 #[.agg #[.bool na, .string sa], .agg #[.bool nb, .string sb]] w (RetDv w q r) := by
  have e := Nat.div_add_mod a.natAbs b.natAbs
  have hl := Nat.mod_lt a.natAbs (Nat.pos_of_ne_zero h0)
  have ways : (((mg a.natAbs).size : Int) < 8 ∧ ((mg b.natAbs).size : Int) < 8) ∨ (decide (((mg a.natAbs).size : Int) < 8) = false ∨ (((mg a.natAbs).size : Int) < 8 ∧ decide (((mg b.natAbs).size : Int) < 8) = false)) := by
    by_cases h8 : ((mg a.natAbs).size : Int) < 8
    · by_cases h9 : ((mg b.natAbs).size : Int) < 8
      · exact .inl ⟨h8, h9⟩
      · exact .inr (.inr ⟨h8, decide_eq_false h9⟩)
    · exact .inr (.inl (decide_eq_false h8))
  have fin : ∀ q' r', DivSpec a b q' r' → Calls Tryz.prog 55 #[.agg #[.bool na, .string sa], .agg #[.bool nb, .string sb]] w (RetDv w q' r') →
      Calls Tryz.prog 55 #[.agg #[.bool na, .string sa], .agg #[.bool nb, .string sb]] w (RetDv w q r) := fun q' r' hd' hc => by
    obtain ⟨rfl, rfl⟩ := div_uniq hd hd'
    exact hc
  cases es1 : sgn a <;> cases es2 : sgn b
  · refine fin _ _ ?_ (ways.elim (fun h => rdv_S_ff na nb sa sb a b w ha hb h1 h2 h0 es1 es2 h.1 h.2) (fun h => rdv_L_ff na nb sa sb a b w ha hb h1 h2 h0 es1 es2 h))
    exact dsp_of (sgn_f es1) (sgn_f es2) (dsp_pp e hl)
  · by_cases hR : a.natAbs % b.natAbs = 0
    · refine fin _ _ ?_ (ways.elim (fun h => rdv_S_ft0 na nb sa sb a b w ha hb h1 h2 h0 es1 es2 hR h.1 h.2) (fun h => rdv_L_ft0 na nb sa sb a b w ha hb h1 h2 h0 es1 es2 hR h))
      exact dsp_of (sgn_f es1) (sgn_t es2) (dsp_pn0 e hl hR)
    · refine fin _ _ ?_ (ways.elim (fun h => rdv_S_ft1 na nb sa sb a b w ha hb h1 h2 h0 es1 es2 hR h.1 h.2) (fun h => rdv_L_ft1 na nb sa sb a b w ha hb h1 h2 h0 es1 es2 hR h))
      exact dsp_of (sgn_f es1) (sgn_t es2) (dsp_pn1 e hl hR)
  · by_cases hR : a.natAbs % b.natAbs = 0
    · refine fin _ _ ?_ (ways.elim (fun h => rdv_S_tf0 na nb sa sb a b w ha hb h1 h2 h0 es1 es2 hR h.1 h.2) (fun h => rdv_L_tf0 na nb sa sb a b w ha hb h1 h2 h0 es1 es2 hR h))
      exact dsp_of (sgn_t es1) (sgn_f es2) (dsp_np0 e hl hR)
    · refine fin _ _ ?_ (ways.elim (fun h => rdv_S_tf1 na nb sa sb a b w ha hb h1 h2 h0 es1 es2 hR h.1 h.2) (fun h => rdv_L_tf1 na nb sa sb a b w ha hb h1 h2 h0 es1 es2 hR h))
      exact dsp_of (sgn_t es1) (sgn_f es2) (dsp_np1 e hl hR)
  · refine fin _ _ ?_ (ways.elim (fun h => rdv_S_tt na nb sa sb a b w ha hb h1 h2 h0 es1 es2 h.1 h.2) (fun h => rdv_L_tt na nb sa sb a b w ha hb h1 h2 h0 es1 es2 h))
    exact dsp_of (sgn_t es1) (sgn_t es2) (dsp_nn e hl)

end Go.Proofs.Gv

namespace Go.Proofs.Gv
open Go Go.RowKit

theorem gtmod_nat (x y : Nat) : Int.tmod (x : Int) (y : Int) = ((x % y : Nat) : Int) := rfl
theorem gcd_next (x y : Nat) : Nat.gcd y (x % y) = Nat.gcd x y := by
  rw [Nat.gcd_comm y, ← Nat.gcd_rec, Nat.gcd_comm]
theorem sz7 {x : Nat} (h : (mg x).size ≤ 7) : x < 72057594037927936 := by
  have la := bv_lt (byt x)
  rw [bv_byt, ← size_mgL] at la
  exact Nat.lt_of_lt_of_le la (Nat.le_trans (Nat.pow_le_pow_right (by decide) h) (by decide))
theorem gcdSm (x : Nat) (h : (mg x).size ≤ 7) (X : World) : Calls Tryz.prog 84 #[.string (mg x)] X fun e w' => e = .returned (.int .i64 (x : Nat)) ∧ X = w' := by
  have := rsmall_any (mg x) X (by omega) (by rw [bv_mg]; have := sz7 h; omega)
  rwa [bv_mg] at this
theorem gcdOf (x : Nat) (h : x < 72057594037927936) (X : World) : Calls Tryz.prog 44 #[.int .i64 x] X fun e w' => e = .returned (.agg #[.bool false, .string (mg x)]) ∧ Below X.heap.size X w' := by
  have := rOf_any (x : Int) X (by omega) (by omega)
  unfold RetI at this
  rwa [show sgn (x : Int) = false from decide_eq_false (by omega), Int.natAbs_natCast] at this
theorem ret_gcd {w wr : World} {G x : Nat} (h : x = G) (hb : Below w.heap.size w wr) : RetI w (G : Nat) (.returned (.agg #[.bool false, .string (mg x)])) wr := by
  subst h
  exact ⟨by rw [show sgn (x : Int) = false from decide_eq_false (by omega), Int.natAbs_natCast], hb⟩

set_option maxRecDepth 100000 in
set_option maxHeartbeats 4000000 in
theorem rGcd_any (na nb : Bool) (sa sb : ByteArray) (w : World) (ha : sa.size ≤ 90000) (hb : sb.size ≤ 90000) :
    Calls Tryz.prog 70 #[.agg #[.bool na, .string sa], .agg #[.bool nb, .string sb]] w (RetI w (Nat.gcd (bv sa.data.toList) (bv sb.data.toList) : Nat)) := by
  have HT1 := Lib.hid (fun X => (rtrim_any sa X (by omega)).mono fun e w' h => (⟨h.1, h.2 ▸ Below.refl _ _⟩ : e = .returned (.string (mg (bv sa.data.toList))) ∧ Below X.heap.size X w'))
  have HT2 := Lib.hid (fun X => (rtrim_any sb X (by omega)).mono fun e w' h => (⟨h.1, h.2 ▸ Below.refl _ _⟩ : e = .returned (.string (mg (bv sb.data.toList))) ∧ Below X.heap.size X w'))
  have hs1 : (mg (bv sa.data.toList)).size ≤ 90000 := Nat.le_trans (size_mg (by have := bv_lt sa.data.toList; simpa using this)) ha
  have hs2 : (mg (bv sb.data.toList)).size ≤ 90000 := Nat.le_trans (size_mg (by have := bv_lt sb.data.toList; simpa using this)) hb
  obtain ⟨x0, hx0⟩ : ∃ x, bv sa.data.toList = x := ⟨_, rfl⟩
  obtain ⟨y0, hy0⟩ : ∃ y, bv sb.data.toList = y := ⟨_, rfl⟩
  obtain ⟨G, hG⟩ : ∃ G, Nat.gcd x0 y0 = G := ⟨_, rfl⟩
  rw [hx0] at HT1 hs1 ⊢
  rw [hy0] at HT2 hs2 ⊢
  rw [hG]
  have HG := Lib.hid hG
  have HS1 := Lib.hid hs1
  have HS2 := Lib.hid hs2
  clear hx0 hy0 hG hs1 hs2 ha hb
  have HL0 := Lib.hid ((((Below.refl w.heap.size w).alloc (Nat.le_refl _) (.cells #[.bool na, .string sa] 23)).alloc (by simp) (.cells #[.bool nb, .string sb] 23)).alloc (by simp; omega) (.cells #[.bool false, .string ⟨#[]⟩] 23))
  have HB0 := Lib.hid (((Bx.new w w.heap.size na sa rfl).alloc (.cells #[.bool nb, .string sb] 23)).alloc (.cells #[.bool false, .string ⟨#[]⟩] 23))
  have HB1 := Lib.hid ((Bx.new (w.alloc (.cells #[.bool na, .string sa] 23)) (w.heap.size + 1) nb sb (by simp)).alloc (.cells #[.bool false, .string ⟨#[]⟩] 23))
  have HB2 := Lib.hid (Bx.new ((w.alloc (.cells #[.bool na, .string sa] 23)).alloc (.cells #[.bool nb, .string sb] 23)) (w.heap.size + 1 + 1) false ⟨#[]⟩ (by simp))
  go_enter Tryz.func70, Tryz.ntmps70
  go_upto_region 1 with fail
  obtain ⟨W, hW⟩ : ∃ W, ((w.alloc (.cells #[.bool na, .string sa] 23)).alloc (.cells #[.bool nb, .string sb] 23)).alloc (.cells #[.bool false, .string ⟨#[]⟩] 23) = W := ⟨_, rfl⟩
  rw [hW] at HL0 HB0 HB1 HB2 ⊢
  clear hW
  haveI := cls_some W
  have fq0 : ∀ u : Cl W, u.x.cell? ⟨w.heap.size, 1, none⟩ = some (.string sa) := fun u => (HB0.out.below u.h).c1
  have fq1 : ∀ u : Cl W, u.x.cell? ⟨w.heap.size + 1, 1, none⟩ = some (.string sb) := fun u => (HB1.out.below u.h).c1
  refine wp_region_cls (by kernel_rfl) ?_
  repeat (first | go_big_quiet_step (fail) | go_big_quiet_step ((go_at_call_of 101 (Value.string sa); exact quiet_cls HT1.out _)) | go_big_quiet_step ((go_at_call_of 101 (Value.string sb); exact quiet_cls HT2.out _)))
  refine wpQuiet_nil ?_
  intro w1 hw9
  have hB : Below W.heap.size W w1 := by obtain ⟨u, rfl⟩ := hw9; exact u.h
  clear hw9 fq0 fq1
  have HL1 := Lib.hid (bstep HL0.out hB)
  have HR1 := Lib.hid (HB2.out.below hB)
  clear hB HL0 HB0 HB1 HB2 this HT1 HT2
  obtain ⟨b4, hb4⟩ : ∃ b, w.heap.size + 1 + 1 = b := ⟨_, rfl⟩
  have HB4 := Lib.hid (show w.heap.size ≤ b4 by omega)
  rw [hb4] at HR1 ⊢
  clear hb4
  go_wp2
  go_loopg [5, 6] (y0 + 1) (fun gg v5 v6 wr => ∃ x y : Nat, v5 = .string (mg x) ∧ v6 = .string (mg y) ∧ Nat.gcd x y = G ∧ (mg x).size ≤ 90000 ∧ (mg y).size ≤ 90000 ∧ y < gg ∧ Bx wr b4 false ⟨#[]⟩ ∧ Below w.heap.size w wr)
  case atStart => exact ⟨x0, y0, rfl, rfl, HG.out, HS1.out, HS2.out, Nat.lt_succ_self _, HR1.out, HL1.out⟩
  case round =>
    clear HR1 HL1 HG HS1 HS2
    obtain ⟨x, y, rfl, rfl, hG, hx, hy, hg, hr, hb⟩ := hrel
    have HG := Lib.hid hG
    have HX := Lib.hid hx
    have HY := Lib.hid hy
    have HR := Lib.hid hr
    have HB := Lib.hid hb
    have HGG := Lib.hid hg
    obtain ⟨r0, r1, r2, r3, _⟩ := id hr
    clear hG hx hy hr hb hg
    by_cases h0 : y = 0
    · subst h0
      have hE := mg_empty
      have HF := Lib.hid (show x = G by rw [← HG.out, Nat.gcd_zero_right])
      go_wp2
      refine bodyPost_ret (v := .agg #[.bool false, .string (mg x)]) (by simp [results, Tryz.results70, go_sem, r0, r1]) rfl ?_
      exact ret_gcd HF.out ((HB.out.setCell (p := ⟨b4, 0, none⟩) HB4.out _).setCell (p := ⟨b4, 1, none⟩) HB4.out _)
    · have hE := mg_full h0
      have HM := Lib.hid (fun X => rdivMag_any x y X (by omega) HX.out HY.out)
      have HYP := Lib.hid h0
      clear h0
      by_cases h7 : (mg x).size ≤ 7 ∧ (mg y).size ≤ 7
      · have t1 : decide ((7 : Int) < (mg x).size) = false := decide_eq_false (by omega)
        have t2 : decide ((7 : Int) < (mg y).size) = false := decide_eq_false (by omega)
        have HA := Lib.hid (fun X => gcdSm x h7.1 X)
        have HC := Lib.hid (fun X => gcdSm y h7.2 X)
        have HXL := Lib.hid (sz7 h7.1)
        have HYL := Lib.hid (sz7 h7.2)
        clear h7
        go_wp2_with (first
          | (go_at_call_of 84 (Value.string (mg x)); refine (HA.out _).mono ?_; rintro e w2 ⟨rfl, rfl⟩)
          | (go_at_call_of 84 (Value.string (mg y)); refine (HC.out _).mono ?_; rintro e w3 ⟨rfl, rfl⟩))
        clear r0 r1 r2 r3 t1 t2 hE
        obtain ⟨wo, rfl⟩ : ∃ wo : World, wo = wr := ⟨_, rfl⟩
        go_loopg [9, 10] (y + 1) (fun gg v9 v10 wr => ∃ m n : Nat, v9 = .int .i64 m ∧ v10 = .int .i64 n ∧ Nat.gcd m n = G ∧ m < 72057594037927936 ∧ n < 72057594037927936 ∧ n < gg ∧ Bx wr b4 false ⟨#[]⟩ ∧ Below w.heap.size w wr)
        case atStart => exact ⟨x, y, rfl, rfl, HG.out, HXL.out, HYL.out, Nat.lt_succ_self _, HR.out, HB.out⟩
        case round =>
          clear HXL HYL HA HC HM HR HB HG
          obtain ⟨m, n, rfl, rfl, hG, hm, hn, hg, hr, hb⟩ := hrel
          have HG := Lib.hid hG
          have HR := Lib.hid hr
          have HB := Lib.hid hb
          have HGG := Lib.hid hg
          have HML := Lib.hid hm
          have HNL := Lib.hid hn
          clear hG hr hb hg
          by_cases h0 : n = 0
          · subst h0
            have HF := Lib.hid (show m = G by rw [← HG.out, Nat.gcd_zero_right])
            have HO := Lib.hid (fun X => gcdOf m HML.out X)
            clear hm hn
            go_wp2_with (go_at_call 44; refine (HO.out _).mono ?_; rintro e w4 ⟨rfl, hb⟩; have HR4 := Lib.hid (HR.out.below hb); have HB4' := Lib.hid (bstep HB.out hb); clear hb; obtain ⟨r0, r1, r2, r3, _⟩ := id HR4.out)
            refine bodyPost_ret (v := .agg #[.bool false, .string (mg m)]) (by simp [results, Tryz.results70, go_sem, r0, r1]) rfl ?_
            exact ret_gcd HF.out ((HB4'.out.setCell (p := ⟨b4, 0, none⟩) HB4.out _).setCell (p := ⟨b4, 1, none⟩) HB4.out _)
          · have t1 : (0 : Int) < n := by omega
            have t2 : ¬ (n : Int) = 0 := by omega
            have HMOD := Lib.hid (Nat.mod_lt m (Nat.pos_of_ne_zero h0))
            have HGN := Lib.hid (show Nat.gcd n (m % n) = G by rw [gcd_next]; exact HG.out)
            have hmd := gtmod_nat m n
            have hwm : wrap64 ((m % n : Nat) : Int) = ((m % n : Nat) : Int) := by have := HMOD.out; unfold wrap64; omega
            clear hm hn h0
            go_wp2
            go_quiet (fail)
            go_wp2
            go_roundg n
            case rel => exact ⟨n, m % n, rfl, rfl, HGN.out, HNL.out, Nat.lt_trans HMOD.out HNL.out, HMOD.out, (HR.out.below (below_drewN (Below.refl _ _) _)), bstep HB.out (below_drewN (Below.refl _ _) _)⟩
            case measure => exact HGG.out
      · have HMOD := Lib.hid (Nat.mod_lt x (Nat.pos_of_ne_zero HYP.out))
        have HGN := Lib.hid (show Nat.gcd y (x % y) = G by rw [gcd_next]; exact HG.out)
        have HSM := Lib.hid (show (mg (x % y)).size ≤ 90000 from Nat.le_trans (mg_mono (Nat.mod_le _ _)) HX.out)
        have hw : decide ((7 : Int) < (mg x).size) = true ∨ (decide ((7 : Int) < (mg x).size) = false ∧ decide ((7 : Int) < (mg y).size) = true) := by
          by_cases hx : (7 : Int) < (mg x).size
          · exact .inl (decide_eq_true hx)
          · exact .inr ⟨decide_eq_false hx, decide_eq_true (by omega)⟩
        clear h7
        rcases hw with t1 | ⟨t1, t2⟩
        all_goals (
          go_wp2_with (go_at_call 85; refine (HM.out _).mono ?_; rintro e w2 ⟨rfl, hb⟩; have HR2 := Lib.hid (HR.out.below hb); have HB2 := Lib.hid (bstep HB.out hb); clear hb)
          go_roundg y
          case rel => exact ⟨y, x % y, rfl, rfl, HGN.out, HY.out, HSM.out, HMOD.out, HR2.out, HB2.out⟩
          case measure => exact HGG.out)
end Go.Proofs.Gv

namespace Go.Proofs.Gv
open Go Go.RowKit

/-- The boxes of Power: the result, out, square. -/
structure PwSt (w W : World) (b6 b7 : Nat) (zo zs : Int) : Prop where
  be : Below w.heap.size w W
  r : Bx W (w.heap.size + 1) false ⟨#[]⟩
  o : Bx W b6 (sgn zo) (mg zo.natAbs)
  q : Bx W b7 (sgn zs) (mg zs.natAbs)
  l6 : w.heap.size + 1 < b6
  l7 : w.heap.size + 1 < b7
  ne : b6 ≠ b7
theorem PwSt.below {w W W' : World} {b6 b7 : Nat} {zo zs : Int} (h : PwSt w W b6 b7 zo zs) (hb : Below W.heap.size W W') : PwSt w W' b6 b7 zo zs :=
  ⟨bstep h.be hb, h.r.below hb, h.o.below hb, h.q.below hb, h.l6, h.l7, h.ne⟩
theorem PwSt.set7 {w W : World} {b6 b7 : Nat} {zo zs : Int} (h : PwSt w W b6 b7 zo zs) (z : Int) : PwSt w ((W.setCell ⟨b7, 0, none⟩ (.bool (sgn z))).setCell ⟨b7, 1, none⟩ (.string (mg z.natAbs))) b6 b7 zo z := by
  have h1 := h.l6
  have h2 := h.l7
  exact ⟨(h.be.setCell (p := ⟨b7, 0, none⟩) (by show w.heap.size ≤ b7; omega) _).setCell (p := ⟨b7, 1, none⟩) (by show w.heap.size ≤ b7; omega) _, h.r.other (by omega), h.o.other h.ne, h.q.set, h.l6, h.l7, h.ne⟩
end Go.Proofs.Gv

namespace Go.Proofs.Gv
open Go Go.RowKit

theorem owns_keep {w w' : World} {base size n : Nat} {e : TypeId} {v : Value} {xs : List Value} (h : w.ownsRow base e size v n xs) (hk : ∀ k, base ≤ k → w'.heap[k]? = w.heap[k]?) : w'.ownsRow base e size v n xs := by
  refine ⟨h.1, h.2.imp id ?_⟩
  rintro ⟨g, cap, cur, h1, h2, h3, h4⟩
  exact ⟨g, cap, cur, h1, h2, (hk g h2).trans h3, h4⟩
/-- The memory of Print: the box, the bytes, the digits. -/
structure PrSt (w W : World) (g n : Nat) (ns : Bool) (A : Nat) (f : Nat → UInt8) (v : Value) (L : List UInt8) : Prop where
  be : Below w.heap.size w W
  bx : Bx W w.heap.size ns (mg A)
  row : BRow W g n f
  own : W.ownsRow (g + 1) 5 1 v L.length (u8s L)
  hg : w.heap.size < g
  gs : g + 1 ≤ W.heap.size
section
variable {w W : World} {g n A : Nat} {ns : Bool} {f h : Nat → UInt8} {v : Value} {L : List UInt8}
theorem PrSt.congr (H : PrSt w W g n ns A f v L) (e : ∀ j, j < n → f j = h j) : PrSt w W g n ns A h v L := ⟨H.be, H.bx, H.row.congr e, H.own, H.hg, H.gs⟩
theorem PrSt.put (H : PrSt w W g n ns A f v L) (k : Nat) (hk : k < n) {V : Int} {c : UInt8} (hV : V = (c.toNat : Int)) : PrSt w (W.setCell ⟨g, k, none⟩ (.int .u8 V)) g n ns A (fun j => if j = k then c else f j) v L := by
  have hg := H.hg
  have e : ∀ o, (W.setCell ⟨g, k, none⟩ (.int .u8 V)).cell? ⟨w.heap.size, o, none⟩ = W.cell? ⟨w.heap.size, o, none⟩ := fun o => World.cell?_setCell_other _ _ _ _ (fun e => by have := congrArg Addr.block e; simp at this; omega)
  exact ⟨H.be.setCell (p := ⟨g, k, none⟩) (by show w.heap.size ≤ g; omega) _, ⟨(e 0).trans H.bx.c0, (e 1).trans H.bx.c1, by rw [World.frozen?_setCell]; exact H.bx.z0, by rw [World.frozen?_setCell]; exact H.bx.z1, by simpa using H.bx.lt⟩,
    H.row.set' k hk hV, owns_keep H.own fun j hj => Below.heap_setCell _ _ _ _ (by show j ≠ g; omega), H.hg, by simpa using H.gs⟩
end
end Go.Proofs.Gv

namespace Go.Proofs.Gv
open Go Go.RowKit

set_option maxRecDepth 100000 in
set_option maxHeartbeats 4000000 in
theorem rone_w {no : Bool} {so : ByteArray} (w : World)
    (H1 : ∀ W, Calls Tryz.prog 44 #[.int .i64 1] W fun e w' => e = .returned (.agg #[.bool no, .string so]) ∧ Below W.heap.size W w')
    : Calls Tryz.prog 49 #[] w fun e w' => e = .returned (.agg #[.bool no, .string so]) ∧ Below w.heap.size w w' := by
  replace H1 := Lib.hid H1
  go_enter Tryz.func49, Tryz.ntmps49
  have HL0 := Lib.hid (Below.refl w.heap.size w)
  have HB0 := Lib.hid (show Bs [] w from trivial)
  have HO0 := Lib.hid (show w.heap.size ≤ w.heap.size from by have := HL0.out.size; first | omega | (simp at this; omega))
  have HL1 := Lib.hid (HL0.out.alloc HL0.out.size (.cells #[.bool false, .string ⟨#[]⟩] 23))
  have HB1 := Lib.hid (HB0.out.push (w.heap.size) #[.bool false, .string ⟨#[]⟩] 23 (by first | rfl | simp))
  clear HL0 HB0
  go_wp2_with fail
  refine (H1.out _).mono ?_
  rintro e w1 ⟨rfl, hb⟩
  have HL2 := Lib.hid (bstep HL1.out hb)
  have HB2 := Lib.hid (HB1.out.bel hb)
  clear hb
  clear HL1 HB1
  have fx0_0_2 := (HB2.out.1).at 0 (.bool false) rfl
  have fz0_0_2 := (HB2.out.1).z 0 (show 0 < 2 by decide)
  have fx0_1_2 := (HB2.out.1).at 1 (.string ⟨#[]⟩) rfl
  have fz0_1_2 := (HB2.out.1).z 1 (show 1 < 2 by decide)
  have HL3 := Below.setCs (c := w.heap.size) (by have := HO0.out; omega) [.bool no, .string so] _ 0 HL2.out
  have HB3 := Bs.store (c := w.heap.size) [.bool no, .string so] 0 0 HB2.out (by simp only [Bs.ap, Bs.ap0, List.length_cons, List.length_nil, and_true, true_and]; have := HO0.out; omega)
  simp only [setCs, setL, Bs.put, List.set_cons_succ, List.set_cons_zero, Nat.zero_add, Nat.reduceAdd] at HL3 HB3
  replace HL3 := Lib.hid HL3
  replace HB3 := Lib.hid HB3
  clear HL2 HB2
  have fx0_0_3 := (HB3.out.1).at 0 (.bool no) rfl
  have fx0_1_3 := (HB3.out.1).at 1 (.string so) rfl
  go_wp2
  refine bodyPost_ret (v := .agg #[.bool no, .string so]) (by simp [results, Tryz.results49, go_sem, fx0_0_3, fx0_1_3]) rfl ?_
  exact ⟨rfl, HL3.out⟩
end Go.Proofs.Gv

namespace Go.Proofs.Gv
open Go Go.RowKit

set_option maxRecDepth 100000 in
set_option maxHeartbeats 4000000 in
theorem rsign_w {na : Bool} {sa : ByteArray} {z0 : Int} (w : World)
    (H1 : ∀ W, Calls Tryz.prog 69 #[.agg #[.bool na, .string sa], .agg #[.bool false, .string ⟨#[]⟩]] W fun e w' => e = .returned (.int .i64 z0) ∧ Below W.heap.size W w')
    : Calls Tryz.prog 42 #[.agg #[.bool na, .string sa]] w fun e w' => e = .returned (.int .i64 z0) ∧ Below w.heap.size w w' := by
  replace H1 := Lib.hid H1
  go_enter Tryz.func42, Tryz.ntmps42
  have HL0 := Lib.hid (Below.refl w.heap.size w)
  have HB0 := Lib.hid (show Bs [] w from trivial)
  have HO0 := Lib.hid (show w.heap.size ≤ w.heap.size from by have := HL0.out.size; first | omega | (simp at this; omega))
  have HL1 := Lib.hid (HL0.out.alloc HL0.out.size (.cells #[.bool na, .string sa] 23))
  have HB1 := Lib.hid (HB0.out.push (w.heap.size) #[.bool na, .string sa] 23 (by first | rfl | simp))
  clear HL0 HB0
  have fx0_0_1 := (HB1.out.1).at 0 (.bool na) rfl
  have fx0_1_1 := (HB1.out.1).at 1 (.string sa) rfl
  go_wp2_with fail
  refine (H1.out _).mono ?_
  rintro e w1 ⟨rfl, hb⟩
  have HL2 := Lib.hid (bstep HL1.out hb)
  have HB2 := Lib.hid (HB1.out.bel hb)
  clear hb
  clear HL1 HB1 fx0_0_1 fx0_1_1
  go_wp2
  go_ret
  exact ⟨rfl, HL2.out⟩
end Go.Proofs.Gv

namespace Go.Proofs.Gv
open Go Go.RowKit

set_option maxRecDepth 100000 in
set_option maxHeartbeats 4000000 in
theorem rlow_pos {nb na ng nx nxr ny nyr : Bool} {sb sa sg sx sxr sy syr : ByteArray} {ex ey : Int} (w : World)
    (H1 : ∀ W, Calls Tryz.prog 42 #[.agg #[.bool nb, .string sb]] W fun e w' => e = .returned (.int .i64 1) ∧ Below W.heap.size W w')
    (H2 : ∀ W, Calls Tryz.prog 70 #[.agg #[.bool na, .string sa], .agg #[.bool nb, .string sb]] W fun e w' => e = .returned (.agg #[.bool ng, .string sg]) ∧ Below W.heap.size W w')
    (H3 : ∀ W, Calls Tryz.prog 55 #[.agg #[.bool na, .string sa], .agg #[.bool ng, .string sg]] W fun e w' => e = .returned (.tuple #[.agg #[.bool nx, .string sx], .agg #[.bool nxr, .string sxr], .int .i64 ex]) ∧ Below W.heap.size W w')
    (H4 : ∀ W, Calls Tryz.prog 55 #[.agg #[.bool nb, .string sb], .agg #[.bool ng, .string sg]] W fun e w' => e = .returned (.tuple #[.agg #[.bool ny, .string sy], .agg #[.bool nyr, .string syr], .int .i64 ey]) ∧ Below W.heap.size W w')
    : Calls Tryz.prog 43 #[.agg #[.bool na, .string sa], .agg #[.bool nb, .string sb]] w fun e w' => e = .returned (.agg #[.bool nx, .string sx, .bool ny, .string sy]) ∧ Below w.heap.size w w' := by
  replace H1 := Lib.hid H1
  replace H2 := Lib.hid H2
  replace H3 := Lib.hid H3
  replace H4 := Lib.hid H4
  go_enter Tryz.func43, Tryz.ntmps43
  have HL0 := Lib.hid (Below.refl w.heap.size w)
  have HB0 := Lib.hid (show Bs [] w from trivial)
  have HO0 := Lib.hid (show w.heap.size ≤ w.heap.size from by have := HL0.out.size; first | omega | (simp at this; omega))
  have HL1 := Lib.hid (HL0.out.alloc HL0.out.size (.cells #[.bool na, .string sa] 23))
  have HB1 := Lib.hid (HB0.out.push (w.heap.size) #[.bool na, .string sa] 23 (by first | rfl | simp))
  clear HL0 HB0
  have HO1 := Lib.hid (show w.heap.size < w.heap.size + 1 from by have := (HB1.out.1).lt; first | omega | (simp at this; omega))
  have HL2 := Lib.hid (HL1.out.alloc HL1.out.size (.cells #[.bool nb, .string sb] 23))
  have HB2 := Lib.hid (HB1.out.push (w.heap.size + 1) #[.bool nb, .string sb] 23 (by first | rfl | simp))
  clear HL1 HB1
  have HO2 := Lib.hid (show w.heap.size + 1 < w.heap.size + 1 + 1 from by have := (HB2.out.1).lt; first | omega | (simp at this; omega))
  have HL3 := Lib.hid (HL2.out.alloc HL2.out.size (.cells #[.bool false, .string ⟨#[]⟩, .bool false, .string ⟨#[]⟩] 25))
  have HB3 := Lib.hid (HB2.out.push (w.heap.size + 1 + 1) #[.bool false, .string ⟨#[]⟩, .bool false, .string ⟨#[]⟩] 25 (by first | rfl | simp))
  clear HL2 HB2
  have fx1_0_3 := (HB3.out.2.1).at 0 (.bool nb) rfl
  have fx1_1_3 := (HB3.out.2.1).at 1 (.string sb) rfl
  go_wp2_with fail
  refine (H1.out _).mono ?_
  rintro e w1 ⟨rfl, hb⟩
  have HL4 := Lib.hid (bstep HL3.out hb)
  have HB4 := Lib.hid (HB3.out.bel hb)
  clear hb
  clear HL3 HB3 fx1_0_3 fx1_1_3
  have fx0_0_4 := (HB4.out.2.2.1).at 0 (.bool na) rfl
  have fx0_1_4 := (HB4.out.2.2.1).at 1 (.string sa) rfl
  have fx1_0_4 := (HB4.out.2.1).at 0 (.bool nb) rfl
  have fx1_1_4 := (HB4.out.2.1).at 1 (.string sb) rfl
  go_wp2_with fail
  refine (H2.out _).mono ?_
  rintro e w2 ⟨rfl, hb⟩
  have HL5 := Lib.hid (bstep HL4.out hb)
  have HB5 := Lib.hid (HB4.out.bel hb)
  clear hb
  clear HL4 HB4 fx0_0_4 fx0_1_4 fx1_0_4 fx1_1_4
  have HO3 := Lib.hid (show w.heap.size + 1 + 1 < w2.heap.size from by have := (HB5.out.1).lt; first | omega | (simp at this; omega))
  have HL6 := Lib.hid (HL5.out.alloc HL5.out.size (.cells #[.bool ng, .string sg] 23))
  have HB6 := Lib.hid (HB5.out.push (w2.heap.size) #[.bool ng, .string sg] 23 (by first | rfl | simp))
  clear HL5 HB5
  have fx0_0_6 := (HB6.out.2.2.2.1).at 0 (.bool na) rfl
  have fx0_1_6 := (HB6.out.2.2.2.1).at 1 (.string sa) rfl
  have fx3_0_6 := (HB6.out.1).at 0 (.bool ng) rfl
  have fx3_1_6 := (HB6.out.1).at 1 (.string sg) rfl
  go_wp2_with fail
  refine (H3.out _).mono ?_
  rintro e w3 ⟨rfl, hb⟩
  have HL7 := Lib.hid (bstep HL6.out hb)
  have HB7 := Lib.hid (HB6.out.bel hb)
  clear hb
  clear HL6 HB6 fx0_0_6 fx0_1_6 fx3_0_6 fx3_1_6
  have fx0_0_7 := (HB7.out.2.2.2.1).at 0 (.bool na) rfl
  have fz0_0_7 := (HB7.out.2.2.2.1).z 0 (show 0 < 2 by decide)
  have fx0_1_7 := (HB7.out.2.2.2.1).at 1 (.string sa) rfl
  have fz0_1_7 := (HB7.out.2.2.2.1).z 1 (show 1 < 2 by decide)
  have HL8 := Below.setCs (c := w.heap.size) (by have := HO0.out; have := HO1.out; have := HO2.out; have := HO3.out; omega) [.bool nx, .string sx] _ 0 HL7.out
  have HB8 := Bs.store (c := w.heap.size) [.bool nx, .string sx] 0 3 HB7.out (by simp only [Bs.ap, Bs.ap0, List.length_cons, List.length_nil, and_true, true_and]; have := HO0.out; have := HO1.out; have := HO2.out; have := HO3.out; omega)
  simp only [setCs, setL, Bs.put, List.set_cons_succ, List.set_cons_zero, Nat.zero_add, Nat.reduceAdd] at HL8 HB8
  replace HL8 := Lib.hid HL8
  replace HB8 := Lib.hid HB8
  clear HL7 HB7
  have fx1_0_8 := (HB8.out.2.2.1).at 0 (.bool nb) rfl
  have fx1_1_8 := (HB8.out.2.2.1).at 1 (.string sb) rfl
  have fx3_0_8 := (HB8.out.1).at 0 (.bool ng) rfl
  have fx3_1_8 := (HB8.out.1).at 1 (.string sg) rfl
  go_wp2_with fail
  refine (H4.out _).mono ?_
  rintro e w4 ⟨rfl, hb⟩
  have HL9 := Lib.hid (bstep HL8.out hb)
  have HB9 := Lib.hid (HB8.out.bel hb)
  clear hb
  clear HL8 HB8 fx0_0_7 fz0_0_7 fx0_1_7 fz0_1_7 fx1_0_8 fx1_1_8 fx3_0_8 fx3_1_8
  have fx1_0_9 := (HB9.out.2.2.1).at 0 (.bool nb) rfl
  have fz1_0_9 := (HB9.out.2.2.1).z 0 (show 0 < 2 by decide)
  have fx1_1_9 := (HB9.out.2.2.1).at 1 (.string sb) rfl
  have fz1_1_9 := (HB9.out.2.2.1).z 1 (show 1 < 2 by decide)
  have HL10 := Below.setCs (c := w.heap.size + 1) (by have := HO0.out; have := HO1.out; have := HO2.out; have := HO3.out; omega) [.bool ny, .string sy] _ 0 HL9.out
  have HB10 := Bs.store (c := w.heap.size + 1) [.bool ny, .string sy] 0 2 HB9.out (by simp only [Bs.ap, Bs.ap0, List.length_cons, List.length_nil, and_true, true_and]; have := HO0.out; have := HO1.out; have := HO2.out; have := HO3.out; omega)
  simp only [setCs, setL, Bs.put, List.set_cons_succ, List.set_cons_zero, Nat.zero_add, Nat.reduceAdd] at HL10 HB10
  replace HL10 := Lib.hid HL10
  replace HB10 := Lib.hid HB10
  clear HL9 HB9
  have fx0_0_10 := (HB10.out.2.2.2.1).at 0 (.bool nx) rfl
  have fx0_1_10 := (HB10.out.2.2.2.1).at 1 (.string sx) rfl
  have fx1_0_10 := (HB10.out.2.2.1).at 0 (.bool ny) rfl
  have fx1_1_10 := (HB10.out.2.2.1).at 1 (.string sy) rfl
  have fx2_0_10 := (HB10.out.2.1).at 0 (.bool false) rfl
  have fz2_0_10 := (HB10.out.2.1).z 0 (show 0 < 4 by decide)
  have fx2_1_10 := (HB10.out.2.1).at 1 (.string ⟨#[]⟩) rfl
  have fz2_1_10 := (HB10.out.2.1).z 1 (show 1 < 4 by decide)
  have fx2_2_10 := (HB10.out.2.1).at 2 (.bool false) rfl
  have fz2_2_10 := (HB10.out.2.1).z 2 (show 2 < 4 by decide)
  have fx2_3_10 := (HB10.out.2.1).at 3 (.string ⟨#[]⟩) rfl
  have fz2_3_10 := (HB10.out.2.1).z 3 (show 3 < 4 by decide)
  have HL11 := Below.setCs (c := w.heap.size + 1 + 1) (by have := HO0.out; have := HO1.out; have := HO2.out; have := HO3.out; omega) [.bool nx, .string sx, .bool ny, .string sy] _ 0 HL10.out
  have HB11 := Bs.store (c := w.heap.size + 1 + 1) [.bool nx, .string sx, .bool ny, .string sy] 0 1 HB10.out (by simp only [Bs.ap, Bs.ap0, List.length_cons, List.length_nil, and_true, true_and]; have := HO0.out; have := HO1.out; have := HO2.out; have := HO3.out; omega)
  simp only [setCs, setL, Bs.put, List.set_cons_succ, List.set_cons_zero, Nat.zero_add, Nat.reduceAdd] at HL11 HB11
  replace HL11 := Lib.hid HL11
  replace HB11 := Lib.hid HB11
  clear HL10 HB10
  have fx2_0_11 := (HB11.out.2.1).at 0 (.bool nx) rfl
  have fx2_1_11 := (HB11.out.2.1).at 1 (.string sx) rfl
  have fx2_2_11 := (HB11.out.2.1).at 2 (.bool ny) rfl
  have fx2_3_11 := (HB11.out.2.1).at 3 (.string sy) rfl
  go_wp2
  refine bodyPost_ret (v := .agg #[.bool nx, .string sx, .bool ny, .string sy]) (by simp [results, Tryz.results43, go_sem, fx2_0_11, fx2_1_11, fx2_2_11, fx2_3_11]) rfl ?_
  exact ⟨rfl, HL11.out⟩
end Go.Proofs.Gv
