/- The reference implementation of integers: Div. -/
import Derived.Test.YtpnhccpfbeidlaaRefDvS
import Derived.Test.YtpnhccpfbeidlaaRefDvL
namespace Go.Proofs.Gv
open Go Go.RowKit

section
variable {A B Q R : Nat}
theorem dsp_eq (e : B * Q + R = A) : (A : Int) = (Q : Int) * (B : Int) + R := by
  rw [← e, Nat.mul_comm]; push_cast; rfl
theorem dsp_pp (e : B * Q + R = A) (hl : R < B) : DivSpec (A : Int) (B : Int) Q R := by
  have := dsp_eq e
  exact ⟨this, .inl ⟨by omega, by omega⟩⟩
theorem dsp_nn (e : B * Q + R = A) (hl : R < B) : DivSpec (-(A : Int)) (-(B : Int)) Q (-(R : Int)) := by
  have := dsp_eq e
  exact ⟨by rw [Int.mul_neg]; omega, .inr ⟨by omega, by omega⟩⟩
theorem dsp_pn0 (e : B * Q + R = A) (hl : R < B) (h : R = 0) : DivSpec (A : Int) (-(B : Int)) (-(Q : Int)) (-(R : Int)) := by
  have := dsp_eq e
  exact ⟨by rw [Int.mul_neg, Int.neg_mul]; omega, .inr ⟨by omega, by omega⟩⟩
theorem dsp_np0 (e : B * Q + R = A) (hl : R < B) (h : R = 0) : DivSpec (-(A : Int)) (B : Int) (-(Q : Int)) (R : Int) := by
  have := dsp_eq e
  exact ⟨by rw [Int.neg_mul]; omega, .inl ⟨by omega, by omega⟩⟩
theorem dsp_pn1 (e : B * Q + R = A) (hl : R < B) (h : R ≠ 0) : DivSpec (A : Int) (-(B : Int)) (-(Q : Int) - 1) (-((B : Int) - R)) := by
  have := dsp_eq e
  exact ⟨by rw [Int.mul_neg, Int.sub_mul, Int.neg_mul, Int.one_mul]; omega, .inr ⟨by omega, by omega⟩⟩
theorem dsp_np1 (e : B * Q + R = A) (hl : R < B) (h : R ≠ 0) : DivSpec (-(A : Int)) (B : Int) (-(Q : Int) - 1) ((B : Int) - R) := by
  have := dsp_eq e
  exact ⟨by rw [Int.sub_mul, Int.neg_mul, Int.one_mul]; omega, .inl ⟨by omega, by omega⟩⟩
end
theorem dsp_of {a b a' b' q r : Int} (e1 : a = a') (e2 : b = b') (h : DivSpec a' b' q r) : DivSpec a b q r := by rw [e1, e2]; exact h
theorem sgn_f {a : Int} (h : sgn a = false) : a = (a.natAbs : Int) := by unfold sgn at h; have := of_decide_eq_false h; omega
theorem sgn_t {a : Int} (h : sgn a = true) : a = -(a.natAbs : Int) := by unfold sgn at h; have := of_decide_eq_true h; omega

theorem rDiv_any (na nb : Bool) (sa sb : ByteArray) (a b q r : Int) (w : World) (ha : Rp na sa a) (hb : Rp nb sb b) (h1 : sa.size ≤ 90000) (h2 : sb.size ≤ 90000) (h0 : b.natAbs ≠ 0) (hd : DivSpec a b q r) :
    Calls Try.prog 22 #[.agg #[.bool na, .string sa], .agg #[.bool nb, .string sb]] w (RetDv w q r) := by
  have e := Nat.div_add_mod a.natAbs b.natAbs
  have hl := Nat.mod_lt a.natAbs (Nat.pos_of_ne_zero h0)
  have ways : (((mg a.natAbs).size : Int) < 8 ∧ ((mg b.natAbs).size : Int) < 8) ∨ (decide (((mg a.natAbs).size : Int) < 8) = false ∨ (((mg a.natAbs).size : Int) < 8 ∧ decide (((mg b.natAbs).size : Int) < 8) = false)) := by
    by_cases h8 : ((mg a.natAbs).size : Int) < 8
    · by_cases h9 : ((mg b.natAbs).size : Int) < 8
      · exact .inl ⟨h8, h9⟩
      · exact .inr (.inr ⟨h8, decide_eq_false h9⟩)
    · exact .inr (.inl (decide_eq_false h8))
  have fin : ∀ q' r', DivSpec a b q' r' → Calls Try.prog 22 #[.agg #[.bool na, .string sa], .agg #[.bool nb, .string sb]] w (RetDv w q' r') →
      Calls Try.prog 22 #[.agg #[.bool na, .string sa], .agg #[.bool nb, .string sb]] w (RetDv w q r) := fun q' r' hd' hc => by
    obtain ⟨rfl, rfl⟩ := div_uniq hd hd'
    exact hc
  cases es1 : sgn a <;> cases es2 : sgn b
  · refine fin _ _ ?_ (ways.elim (fun h => rdv_S_ff na nb sa sb a b w ha hb h1 h2 h0 es1 es2 h.1 h.2) (fun h => rdv_L_ff na nb sa sb a b w ha hb h1 h2 h0 es1 es2 h))
    exact dsp_of (sgn_f es1) (sgn_f es2) (dsp_pp e hl)
  · by_cases hR : a.natAbs % b.natAbs = 0
    · refine fin _ _ ?_ (ways.elim (fun h => rdv_S_ft0 na nb sa sb a b w ha hb h1 h2 h0 es1 es2 hR h.1 h.2) (fun h => rdv_L_ft0 na nb sa sb a b w ha hb h1 h2 h0 es1 es2 hR h))
      exact dsp_of (sgn_f es1) (sgn_t es2) (dsp_pn0 e hl hR)
    · refine fin _ _ ?_ (ways.elim (fun h => rdv_S_ft1 na nb sa sb a b w ha hb h1 h2 h0 es1 es2 hR h.1 h.2) (fun h => rdv_L_ft1 na nb sa sb a b w ha hb h1 h2 h0 es1 es2 hR h))
      exact dsp_of (sgn_f es1) (sgn_t es2) (dsp_pn1 e hl hR)
  · by_cases hR : a.natAbs % b.natAbs = 0
    · refine fin _ _ ?_ (ways.elim (fun h => rdv_S_tf0 na nb sa sb a b w ha hb h1 h2 h0 es1 es2 hR h.1 h.2) (fun h => rdv_L_tf0 na nb sa sb a b w ha hb h1 h2 h0 es1 es2 hR h))
      exact dsp_of (sgn_t es1) (sgn_f es2) (dsp_np0 e hl hR)
    · refine fin _ _ ?_ (ways.elim (fun h => rdv_S_tf1 na nb sa sb a b w ha hb h1 h2 h0 es1 es2 hR h.1 h.2) (fun h => rdv_L_tf1 na nb sa sb a b w ha hb h1 h2 h0 es1 es2 hR h))
      exact dsp_of (sgn_t es1) (sgn_f es2) (dsp_np1 e hl hR)
  · refine fin _ _ ?_ (ways.elim (fun h => rdv_S_tt na nb sa sb a b w ha hb h1 h2 h0 es1 es2 h.1 h.2) (fun h => rdv_L_tt na nb sa sb a b w ha hb h1 h2 h0 es1 es2 h))
    exact dsp_of (sgn_t es1) (sgn_t es2) (dsp_nn e hl)

set_option maxRecDepth 100000 in
set_option maxHeartbeats 4000000 in
theorem rDiv_zero (na nb : Bool) (sa sb : ByteArray) (a : Int) (w : World) (ha : Rp na sa a) (hb : Rp nb sb 0) :
    Calls Try.prog 22 #[.agg #[.bool na, .string sa], .agg #[.bool nb, .string sb]] w fun e w' => e = .returned (.tuple #[.agg #[.bool false, .string ⟨#[]⟩], .agg #[.bool false, .string ⟨#[]⟩], .int .i64 9]) ∧ Below w.heap.size w w' := by
  have H1 := Lib.hid (cCanon ha)
  have H2 := Lib.hid (cCanon hb)
  rw [sgn_zero, Int.natAbs_zero, mg_zero] at H2
  obtain ⟨ns, hns⟩ : ∃ x, sgn a = x := ⟨_, rfl⟩
  obtain ⟨ms, hms⟩ : ∃ x, mg a.natAbs = x := ⟨_, rfl⟩
  rw [hns, hms] at H1
  clear hns hms ha hb
  have HL0 := Lib.hid (((((Below.refl w.heap.size w).alloc (Nat.le_refl _) (.cells #[.bool na, .string sa] 23)).alloc (by simp) (.cells #[.bool nb, .string sb] 23)).alloc (by simp; omega) (.cells #[.bool false, .string ⟨#[]⟩] 23)).alloc (by simp; omega) (.cells #[.bool false, .string ⟨#[]⟩] 23))
  have HB0 := Lib.hid ((((Bx.new w w.heap.size na sa rfl).alloc (.cells #[.bool nb, .string sb] 23)).alloc (.cells #[.bool false, .string ⟨#[]⟩] 23)).alloc (.cells #[.bool false, .string ⟨#[]⟩] 23))
  have HB1 := Lib.hid (((Bx.new (w.alloc (.cells #[.bool na, .string sa] 23)) (w.heap.size + 1) nb sb (by simp)).alloc (.cells #[.bool false, .string ⟨#[]⟩] 23)).alloc (.cells #[.bool false, .string ⟨#[]⟩] 23))
  have HB2 := Lib.hid ((Bx.new ((w.alloc (.cells #[.bool na, .string sa] 23)).alloc (.cells #[.bool nb, .string sb] 23)) (w.heap.size + 1 + 1) false ⟨#[]⟩ (by simp)).alloc (.cells #[.bool false, .string ⟨#[]⟩] 23))
  have HB3 := Lib.hid (Bx.new (((w.alloc (.cells #[.bool na, .string sa] 23)).alloc (.cells #[.bool nb, .string sb] 23)).alloc (.cells #[.bool false, .string ⟨#[]⟩] 23)) (w.heap.size + 1 + 1 + 1) false ⟨#[]⟩ (by simp))
  go_enter Try.func22, Try.ntmps22
  go_upto_region 1 with fail
  obtain ⟨W, hW⟩ : ∃ W, (((w.alloc (.cells #[.bool na, .string sa] 23)).alloc (.cells #[.bool nb, .string sb] 23)).alloc (.cells #[.bool false, .string ⟨#[]⟩] 23)).alloc (.cells #[.bool false, .string ⟨#[]⟩] 23) = W := ⟨_, rfl⟩
  rw [hW] at HL0 HB0 HB1 HB2 HB3 ⊢
  clear hW
  go_cut [] (fun wx => Below w.heap.size w wx ∧ Bx wx (w.heap.size) ns ms ∧ Bx wx (w.heap.size + 1) false ⟨#[]⟩ ∧ Bx wx (w.heap.size + 1 + 1) false ⟨#[]⟩ ∧ Bx wx (w.heap.size + 1 + 1 + 1) false ⟨#[]⟩)
  case first =>
    refine wp_region_front 4 zvI (by kernel_rfl) shI (by kernel_rfl) (by kernel_rfl) (zvI_alloc _ (by kernel_rfl)) (shI_store _ (by kernel_rfl)) ?_
    intro mm BW hm1 hm2 hBW
    haveI := clm_some mm BW
    have fq0 := fun u : Clm mm BW => (HB0.out.clm hm1 hBW u).1
    have fr0 := fun u : Clm mm BW => (HB0.out.clm hm1 hBW u).2
    have fq1 := fun u : Clm mm BW => (HB1.out.clm hm1 hBW u).1
    have fr1 := fun u : Clm mm BW => (HB1.out.clm hm1 hBW u).2
    simp only [frontOf, unmade, List.take_succ_cons, List.take_zero, List.map_cons, List.map_nil]
    iterate 1 (go_big_quiet_step (fail))
    go_big_quiet_step ((go_at_call 48; exact quiet_clm hm2 H1.out _))
    iterate 1 (go_big_quiet_step (fail))
    go_big_quiet_step ((go_at_call 48; exact quiet_clm hm2 H2.out _))
    refine wpQuiet_nil ?_
    refine ⟨List.forall_mem_nil _, ?_⟩
    intro γ w9 hB9 hF
    clear hF hBW this hm1 hm2 fq0 fr0 fq1 fr1
    clear BW mm
    simp only [madesFrom, Facts, patch, List.take_succ_cons, List.take_zero, List.drop_succ_cons, List.drop_zero]
    clear γ
    have hl0 := bstep HL0.out hB9
    have bx0 := HB0.out.below hB9
    have bx1 := HB1.out.below hB9
    have bx2 := HB2.out.below hB9
    have bx3 := HB3.out.below hB9
    clear hB9
    obtain ⟨fx3, fy3, fz3, ft3, _⟩ := id bx0
    obtain ⟨fx6, fy6, fz6, ft6, _⟩ := id bx1
    go_wp2_with fail
    go_meet
    exact ⟨((((hl0.setCell (p := ⟨_, 0, none⟩) (Nat.le_refl _) _).setCell (p := ⟨_, 1, none⟩) (Nat.le_refl _) _).setCell (p := ⟨_, 0, none⟩) (Nat.le_succ _) _).setCell (p := ⟨_, 1, none⟩) (Nat.le_succ _) _), (bx0.set).other (by omega), (bx1.other (by omega)).set, (bx2.other (by omega)).other (by omega), (bx3.other (by omega)).other (by omega)⟩
  case rest =>
    obtain ⟨hl0, bx0, bx1, bx2, bx3⟩ := hcut
    obtain ⟨y0, y1, y2, y3, y4⟩ := id bx1
    obtain ⟨u0, u1, u2, u3, u4⟩ := id bx2
    obtain ⟨r0, r1, r2, r3, r4⟩ := id bx3
    go_wp2
    refine bodyPost_ret (v := .tuple #[.agg #[.bool false, .string ⟨#[]⟩], .agg #[.bool false, .string ⟨#[]⟩], .int .i64 9]) (by simp [results, Try.results22, go_sem, u0, u1, r0, r1]) rfl ?_
    exact ⟨rfl, (((hl0.setCell (p := ⟨w.heap.size + 1 + 1, 0, none⟩) (by show w.heap.size ≤ w.heap.size + 1 + 1; omega) _).setCell (p := ⟨w.heap.size + 1 + 1, 1, none⟩) (by show w.heap.size ≤ w.heap.size + 1 + 1; omega) _).setCell (p := ⟨w.heap.size + 1 + 1 + 1, 0, none⟩) (by show w.heap.size ≤ w.heap.size + 1 + 1 + 1; omega) _).setCell (p := ⟨w.heap.size + 1 + 1 + 1, 1, none⟩) (by show w.heap.size ≤ w.heap.size + 1 + 1 + 1; omega) _⟩
end Go.Proofs.Gv
