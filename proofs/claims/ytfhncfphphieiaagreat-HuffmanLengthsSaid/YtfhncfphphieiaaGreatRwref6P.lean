import Derived.Test.YtfhncfphphieiaaGreatRefAdd
import Derived.Test.YtfhncfphphieiaaGreatRwlow4P
set_option maxHeartbeats 4000000
set_option maxRecDepth 100000
set_option linter.unusedSimpArgs false
set_option linter.unusedVariables false
namespace Go.Proofs.Gv
open Go Go.RowKit
theorem pw_bd {z : Int} {k N M : Nat} (h : N * bl z.natAbs ≤ M) (hk : k ≤ N) : (z ^ k).natAbs < 2 ^ (M + 1) := by
 have h1 : z.natAbs < 2 ^ (bl z.natAbs) := bl_le_iff.1 (Nat.le_refl _)
 have h2 : z.natAbs ^ k ≤ (2 ^ (bl z.natAbs)) ^ k := Nat.pow_le_pow_left (Nat.le_of_lt h1) k
 rw [← Nat.pow_mul] at h2
 have h3 : bl z.natAbs * k ≤ M := by
  have := Nat.mul_le_mul_right (bl z.natAbs) hk
  rw [Nat.mul_comm]; omega
 have h4 : 2 ^ (bl z.natAbs * k) ≤ 2 ^ M := Nat.pow_le_pow_right (by decide) h3
 rw [Int.natAbs_pow]
 exact Nat.lt_of_le_of_lt (Nat.le_trans h2 h4) (Nat.pow_lt_pow_right (by decide) (Nat.lt_succ_self M))
theorem pw_rp {z : Int} {k N M : Nat} (hM : M ≤ 65536) (h : N * bl z.natAbs ≤ M) (hk : k ≤ N) : Rp (sgn (z ^ k)) (mg (z ^ k).natAbs) (z ^ k) ∧ (mg (z ^ k).natAbs).size ≤ 100000 := by
 have h1 := pw_bd h hk
 refine ⟨Rp.V (M + 1) h1 (by omega), Nat.le_trans (szB ((M + 1) / 8 + 1) (Nat.lt_of_lt_of_le h1 (Nat.pow_le_pow_right (by decide) (by omega)))) (by omega)⟩
structure PwSt (w W : World) (b6 b7 : Nat) (zo zs : Int) : Prop where
 be : Below w.heap.size w W
 r : Bx W (w.heap.size + 1) false ⟨#[]⟩
 o : Bx W b6 (sgn zo) (mg zo.natAbs)
 q : Bx W b7 (sgn zs) (mg zs.natAbs)
 l6 : w.heap.size + 1 < b6
 l7 : w.heap.size + 1 < b7
 ne : b6 ≠ b7
theorem PwSt.below {w W W' : World} {b6 b7 : Nat} {zo zs : Int} (h : PwSt w W b6 b7 zo zs) (hb : Below W.heap.size W W') : PwSt w W' b6 b7 zo zs :=
 ⟨bstep h.be hb, h.r.below hb, h.o.below hb, h.q.below hb, h.l6, h.l7, h.ne⟩
theorem PwSt.set6 {w W : World} {b6 b7 : Nat} {zo zs : Int} (h : PwSt w W b6 b7 zo zs) (z : Int) : PwSt w ((W.setCell ⟨b6, 0, none⟩ (.bool (sgn z))).setCell ⟨b6, 1, none⟩ (.string (mg z.natAbs))) b6 b7 z zs := by
 have h1 := h.l6
 have h2 := h.l7
 exact ⟨(h.be.setCell (p := ⟨b6, 0, none⟩) (by show w.heap.size ≤ b6; omega) _).setCell (p := ⟨b6, 1, none⟩) (by show w.heap.size ≤ b6; omega) _, h.r.other (by omega), h.o.set, h.q.other (Ne.symm h.ne), h.l6, h.l7, h.ne⟩
theorem PwSt.set7 {w W : World} {b6 b7 : Nat} {zo zs : Int} (h : PwSt w W b6 b7 zo zs) (z : Int) : PwSt w ((W.setCell ⟨b7, 0, none⟩ (.bool (sgn z))).setCell ⟨b7, 1, none⟩ (.string (mg z.natAbs))) b6 b7 zo z := by
 have h1 := h.l6
 have h2 := h.l7
 exact ⟨(h.be.setCell (p := ⟨b7, 0, none⟩) (by show w.heap.size ≤ b7; omega) _).setCell (p := ⟨b7, 1, none⟩) (by show w.heap.size ≤ b7; omega) _, h.r.other (by omega), h.o.other h.ne, h.q.set, h.l6, h.l7, h.ne⟩
theorem odd_step {x y m N : Nat} (h : x + m * y = N) (hm : m % 2 = 1) : (x + y) + m / 2 * (2 * y) = N := by
 have : m = 2 * (m / 2) + 1 := by omega
 rw [← h]
 conv => rhs; rw [this]
 rw [Nat.add_mul, Nat.one_mul, Nat.mul_comm 2 (m / 2), Nat.mul_assoc]
 omega
theorem even_step {x y m N : Nat} (h : x + m * y = N) (hm : m % 2 = 0) : x + m / 2 * (2 * y) = N := by
 have : m = 2 * (m / 2) := by omega
 rw [← h]
 conv => rhs; rw [this]
 rw [Nat.mul_comm 2 (m / 2), Nat.mul_assoc]
theorem ipow_add (z : Int) (x y : Nat) : z ^ (x + y) = z ^ x * z ^ y := by
 induction y with
 | zero => rw [Nat.add_zero, Int.pow_zero, Int.mul_one]
 | succ y ih => rw [← Nat.add_assoc, Int.pow_succ, ih, Int.pow_succ, Int.mul_assoc]
theorem cMulR {a b : Int} (ha : Rp (sgn a) (mg a.natAbs) a ∧ (mg a.natAbs).size ≤ 100000) (hb : Rp (sgn b) (mg b.natAbs) b ∧ (mg b.natAbs).size ≤ 100000) (X : World) :
  Calls Tryz.prog 69 #[.agg #[.bool (sgn a), .string (mg a.natAbs)], .agg #[.bool (sgn b), .string (mg b.natAbs)]] X fun e w' => e = .returned (.agg #[.bool (sgn (a * b)), .string (mg (a * b).natAbs)]) ∧ Below X.heap.size X w' :=
 rMul_any _ _ _ _ a b X ha.1 hb.1 ha.2 hb.2
theorem rPower_main (na : Bool) (sa : ByteArray) (N : Nat) (w : World) (ha : sa.size ≤ 90000) (h1 : N ≤ 4096) (h2 : N * bl (iv na sa).natAbs ≤ 65536) :
  Calls Tryz.prog 71 #[.agg #[.bool na, .string sa], .int .i64 N] w (RetIE w ((iv na sa) ^ N) 0) := by
 have HBt := Lib.hid (fun X => rBits_any na sa X (by omega))
 have HOf := Lib.hid (fun X => show Calls Tryz.prog 46 #[.int .i64 1] X (fun e w' => e = .returned (.agg #[.bool (sgn ((iv na sa) ^ 0)), .string (mg ((iv na sa) ^ 0).natAbs)]) ∧ Below X.heap.size X w') from by rw [Int.pow_zero]; exact rOf_any 1 X (by omega) (by omega))
 have HCn := Lib.hid (fun X => show Calls Tryz.prog 45 #[.agg #[.bool na, .string sa]] X (fun e w' => e = .returned (.agg #[.bool (sgn ((iv na sa) ^ 1)), .string (mg ((iv na sa) ^ 1).natAbs)]) ∧ Below X.heap.size X w') from by rw [Int.pow_one]; exact rcanon_any na sa X (by omega))
 rw [← iv_abs na sa] at HBt
 obtain ⟨z, hz⟩ : ∃ z, iv na sa = z := ⟨_, rfl⟩
 rw [hz] at HBt HOf HCn h2 ⊢
 obtain ⟨u0, hu0⟩ : ∃ u, z ^ 0 = u := ⟨_, rfl⟩
 obtain ⟨u1, hu1⟩ : ∃ u, z ^ 1 = u := ⟨_, rfl⟩
 rw [hu0] at HOf
 rw [hu1] at HCn
 have HU0 := Lib.hid hu0
 have HU1 := Lib.hid hu1
 clear hu0 hu1
 obtain ⟨p, hp⟩ : ∃ p, bl z.natAbs = p := ⟨_, rfl⟩
 have HP := Lib.hid hp
 rw [hp] at HBt h2
 obtain ⟨P, hP⟩ : ∃ P, p * N = P := ⟨_, rfl⟩
 have hPi : (p : Int) * (N : Int) = P := by rw [← hP]; push_cast; rfl
 have hPb : P ≤ 65536 := by rw [← hP, Nat.mul_comm]; exact h2
 have hPd : decide ((65536 : Int) < (P : Nat)) = false := decide_eq_false (by omega)
 have HRP := Lib.hid (fun k (hk : k ≤ N) => pw_rp (z := z) (k := k) (Nat.le_refl 65536) (by rw [hp]; exact h2) hk)
 have HH1 := Lib.hid h1
 clear hz hp hP h2 h1 ha
 have n0 : decide ((N : Int) < 0) = false := decide_eq_false (by omega)
 have n1 : decide ((4096 : Int) < N) = false := decide_eq_false (by have := HH1.out; omega)
 have HL0 := Lib.hid (((Below.refl w.heap.size w).alloc (Nat.le_refl _) (.cells #[.bool na, .string sa] 36)).alloc (by simp) (.cells #[.bool false, .string ⟨#[]⟩] 36))
 have HB0 := Lib.hid ((Bx.new w w.heap.size na sa rfl).alloc (.cells #[.bool false, .string ⟨#[]⟩] 36))
 have HB1 := Lib.hid (Bx.new (w.alloc (.cells #[.bool na, .string sa] 36)) (w.heap.size + 1) false ⟨#[]⟩ (by simp))
 go_enter Tryz.func71, Tryz.ntmps71
 go_upto_region 1 with fail
 obtain ⟨W, hW⟩ : ∃ W, (w.alloc (.cells #[.bool na, .string sa] 36)).alloc (.cells #[.bool false, .string ⟨#[]⟩] 36) = W := ⟨_, rfl⟩
 rw [hW] at HL0 HB0 HB1 ⊢
 clear hW
 obtain ⟨x0, x1, x2, x3, _⟩ := id HB0.out
 go_wp2_with (go_at_call 101; refine (HBt.out _).mono ?_; rintro e W1 ⟨rfl, hb⟩; have HL1 := Lib.hid (bstep HL0.out hb); have HX1 := Lib.hid (HB0.out.below hb); have HR1 := Lib.hid (HB1.out.below hb); clear hb)
 clear x0 x1 x2 x3 HL0 HB0 HB1 n0 n1
 refine wp_region_front 7 zvI (by kernel_rfl) shI (by kernel_rfl) (by kernel_rfl) (zvI_alloc _ (by kernel_rfl)) (shI_store _ (by kernel_rfl)) ?_
 intro mm BW hm1 hm2 hBW
 haveI := clm_some mm BW
 have fq0 := fun u : Clm mm BW => (HX1.out.clm hm1 hBW u).1
 have fr0 := fun u : Clm mm BW => (HX1.out.clm hm1 hBW u).2
 simp only [frontOf, unmade, List.take_succ_cons, List.take_zero, List.map_cons, List.map_nil]
 go_big_quiet_step ((go_at_call 46; exact quiet_clm hm2 HOf.out _))
 iterate 1 (go_big_quiet_step (fail))
 go_big_quiet_step ((go_at_call 45; exact quiet_clm hm2 HCn.out _))
 iterate 4 (go_big_quiet_step (fail))
 refine wpQuiet_nil ?_
 refine ⟨List.forall_mem_cons.2 ⟨by kernel_rfl, List.forall_mem_cons.2 ⟨by kernel_rfl, List.forall_mem_nil _⟩⟩, ?_⟩
 intro γ w9 hB9 hF
 clear hBW this hm1 hm2 fq0 fr0
 clear BW mm
 simp only [madesFrom, Facts, patch, List.take_succ_cons, List.take_zero, List.drop_succ_cons, List.drop_zero, Nat.zero_add, Nat.reduceAdd, List.mem_cons, List.not_mem_nil, or_false, forall_eq, forall_eq_or_imp, false_imp_iff, implies_true, and_true] at hF ⊢
 obtain ⟨⟨hp6, hl6, hk6, hn6⟩, hp7, hl7, hk7⟩ := hF
 obtain ⟨b6, hG⟩ : ∃ B, γ 3 = B := ⟨_, rfl⟩
 rw [hG] at hp6 hl6 hk6 hn6 ⊢
 clear hG
 obtain ⟨b7, hG⟩ : ∃ B, γ 4 = B := ⟨_, rfl⟩
 rw [hG] at hp7 hl7 hk7 hn6 ⊢
 clear hG
 have hr1 := HR1.out.lt
 have HS := Lib.hid (show PwSt w w9 b6 b7 u0 u1 from ⟨bstep HL1.out hB9, HR1.out.below hB9, bx_of hk6 hl6, bx_of hk7 hl7, Nat.lt_of_lt_of_le hr1 hp6, Nat.lt_of_lt_of_le hr1 hp7, hn6⟩)
 clear hB9 hp6 hl6 hk6 hn6 hp7 hl7 hk7 hr1 HL1 HX1 HR1 HOf HCn HBt
 go_wp2
 go_frame
 go_loopg [1] (N + 1) (fun gg v1 wr => ∃ m x y : Nat, v1 = .int .i64 m ∧ m < gg ∧ m ≤ N ∧ x + m * y = N ∧ PwSt w wr b6 b7 (z ^ x) (z ^ y))
 case atStart => exact ⟨N, 0, 1, rfl, Nat.lt_succ_self _, Nat.le_refl _, by omega, by rw [HU0.out, HU1.out]; exact HS.out⟩
 case round =>
  clear HS
  obtain ⟨m, x, y, rfl, hg, hmN, hxy, hs⟩ := hrel
  have HGG := Lib.hid hg
  have HXY := Lib.hid hxy
  have HS := Lib.hid hs
  have hmb : m ≤ 4096 := Nat.le_trans hmN HH1.out
  have HMN := Lib.hid hmN
  clear hg hxy hs hmN
  by_cases h0 : m = 0
  ·subst h0
   have HZ := Lib.hid (show x = N by have := HXY.out; omega)
   obtain ⟨o0, o1, o2, o3, _⟩ := id HS.out.o
   obtain ⟨r0, r1, r2, r3, _⟩ := id HS.out.r
   go_wp2
   refine bodyPost_ret (v := .tuple #[.agg #[.bool (sgn (z ^ x)), .string (mg (z ^ x).natAbs)], .int .i64 0]) (by simp [results, Tryz.results71, go_sem, r0, r1]) rfl ?_
   refine ⟨by rw [HZ.out], (HS.out.be.setCell (p := ⟨w.heap.size + 1, 0, none⟩) (Nat.le_succ _) _).setCell (p := ⟨w.heap.size + 1, 1, none⟩) (Nat.le_succ _) _⟩
  ·have t0 : (0 : Int) < m := by omega
   have HYN := Lib.hid (show y ≤ N by have h := HXY.out; have := Nat.le_mul_of_pos_left y (show 0 < m by omega); omega)
   have HXN := Lib.hid (show x ≤ N by have h := HXY.out; omega)
   have HM0 := Lib.hid h0
   clear h0
   have RO := HRP.out x HXN.out
   have RS := HRP.out y HYN.out
   obtain ⟨zo, hzo⟩ : ∃ zo, z ^ x = zo := ⟨_, rfl⟩
   obtain ⟨zs, hzs⟩ : ∃ zs, z ^ y = zs := ⟨_, rfl⟩
   rw [hzo] at RO HS
   rw [hzs] at RS HS
   have HMo := Lib.hid (fun X => cMulR RO RS X)
   have HMs := Lib.hid (fun X => cMulR RS RS X)
   obtain ⟨zm, hzm⟩ : ∃ zm, zo * zs = zm := ⟨_, rfl⟩
   obtain ⟨zq, hzq⟩ : ∃ zq, zs * zs = zq := ⟨_, rfl⟩
   rw [hzm] at HMo
   rw [hzq] at HMs
   have HZO := Lib.hid hzo
   have HZS := Lib.hid hzs
   have HZM := Lib.hid hzm
   have HZQ := Lib.hid hzq
   clear hzo hzs hzm hzq RO RS
   obtain ⟨o0, o1, o2, o3, _⟩ := id HS.out.o
   obtain ⟨q0, q1, q2, q3, _⟩ := id HS.out.q
   have hne : ¬ b6 = b7 := HS.out.ne
   have hne' : ¬ b7 = b6 := Ne.symm HS.out.ne
   have tk0 := Lib.hid trivial
   by_cases ho : m % 2 = 1
   ·by_cases hm2 : 0 < m / 2
    ·have t1 : (((m : Int) % 2) == 1) = true := by rw [beq_iff_eq]; omega
     have t2 : (0 : Int) < (m : Int) / 2 := by omega
     have HE := Lib.hid (show ((m / 2 : Nat) : Int) = (m : Int) / 2 by omega)
     have HN := Lib.hid (odd_step HXY.out ho)
     have HDV := Lib.hid (show m / 2 < m by omega)
     have HM2 := Lib.hid (show 0 < m / 2 by omega)
     clear ho hm2
     go_wp2_with (first | (go_at_call 69; have hz := tk0.out; clear hz; refine (HMo.out _).mono ?_; rintro e W1 ⟨rfl, hb⟩; have tk1 := Lib.hid trivial; clear tk0; have HS1 := Lib.hid (HS.out.below hb); clear hb o0 o1 o2 o3 q0 q1 q2 q3; obtain ⟨o0, o1, o2, o3, _⟩ := id HS1.out.o; obtain ⟨q0, q1, q2, q3, _⟩ := id HS1.out.q) | (go_at_call 69; have hz := tk1.out; clear hz; refine (HMs.out _).mono ?_; rintro e W2 ⟨rfl, hb⟩; clear tk1; have HS2 := Lib.hid ((HS1.out.set6 zm).below hb); clear hb o0 o1 o2 o3 q0 q1 q2 q3; obtain ⟨q0, q1, q2, q3, _⟩ := id HS2.out.q))
     go_roundg m
     case rel =>
      have hs := HS2.out.set7 zq
      refine ⟨m / 2, x + y, 2 * y, by rw [HE.out], HDV.out, by have := HMN.out; have := HDV.out; omega, ?_, ?_⟩
      ·exact HN.out
      ·rw [ipow_add, HZO.out, HZS.out, HZM.out, Nat.two_mul, ipow_add, HZS.out, HZQ.out]; exact hs
     case measure => exact HGG.out
    ·have t1 : (((m : Int) % 2) == 1) = true := by rw [beq_iff_eq]; omega
     have t2 : ¬ (0 : Int) < (m : Int) / 2 := by omega
     have HE := Lib.hid (show ((m / 2 : Nat) : Int) = (m : Int) / 2 by omega)
     have HN := Lib.hid (odd_step HXY.out ho)
     have HDV := Lib.hid (show m / 2 < m by omega)
     have HM2 := Lib.hid (show m / 2 = 0 by omega)
     clear ho hm2
     go_wp2_with (first | (go_at_call 69; have hz := tk0.out; clear hz; refine (HMo.out _).mono ?_; rintro e W1 ⟨rfl, hb⟩; have tk1 := Lib.hid trivial; clear tk0; have HS1 := Lib.hid (HS.out.below hb); clear hb o0 o1 o2 o3 q0 q1 q2 q3; obtain ⟨o0, o1, o2, o3, _⟩ := id HS1.out.o; obtain ⟨q0, q1, q2, q3, _⟩ := id HS1.out.q))
     go_roundg m
     case rel =>
      have hs := HS1.out.set6 zm
      refine ⟨m / 2, x + y, y, by rw [HE.out], HDV.out, by have := HMN.out; have := HDV.out; omega, ?_, ?_⟩
      ·have := HN.out; rw [HM2.out] at this ⊢; omega
      ·rw [ipow_add, HZO.out, HZS.out, HZM.out]; exact hs
     case measure => exact HGG.out
   ·by_cases hm2 : 0 < m / 2
    ·have t1 : (((m : Int) % 2) == 1) = false := by rw [beq_eq_false_iff_ne]; omega
     have t2 : (0 : Int) < (m : Int) / 2 := by omega
     have HE := Lib.hid (show ((m / 2 : Nat) : Int) = (m : Int) / 2 by omega)
     have HN := Lib.hid (even_step HXY.out (show m % 2 = 0 by omega))
     have HDV := Lib.hid (show m / 2 < m by omega)
     have HM2 := Lib.hid (show 0 < m / 2 by omega)
     clear ho hm2
     go_wp2_with (first | (go_at_call 69; have hz := tk0.out; clear hz; refine (HMs.out _).mono ?_; rintro e W2 ⟨rfl, hb⟩; clear tk0; have HS2 := Lib.hid (HS.out.below hb); clear hb o0 o1 o2 o3 q0 q1 q2 q3; obtain ⟨q0, q1, q2, q3, _⟩ := id HS2.out.q))
     go_roundg m
     case rel =>
      have hs := HS2.out.set7 zq
      refine ⟨m / 2, x, 2 * y, by rw [HE.out], HDV.out, by have := HMN.out; have := HDV.out; omega, ?_, ?_⟩
      ·exact HN.out
      ·rw [HZO.out, Nat.two_mul, ipow_add, HZS.out, HZQ.out]; exact hs
     case measure => exact HGG.out
    ·have t1 : (((m : Int) % 2) == 1) = false := by rw [beq_eq_false_iff_ne]; omega
     have t2 : ¬ (0 : Int) < (m : Int) / 2 := by omega
     have HE := Lib.hid (show ((m / 2 : Nat) : Int) = (m : Int) / 2 by omega)
     have HN := Lib.hid (even_step HXY.out (show m % 2 = 0 by omega))
     have HDV := Lib.hid (show m / 2 < m by omega)
     have HM2 := Lib.hid (show m / 2 = 0 by omega)
     clear ho hm2
     go_wp2
     go_roundg m
     case rel =>
      have hs := HS.out
      refine ⟨m / 2, x, y, by rw [HE.out], HDV.out, by have := HMN.out; have := HDV.out; omega, ?_, ?_⟩
      ·have := HN.out; rw [HM2.out] at this ⊢; omega
      ·rw [HZO.out, HZS.out]; exact hs
     case measure => exact HGG.out
theorem rPower_range (na : Bool) (sa : ByteArray) (n : Int) (w : World) (hn : n < 0 ∨ 4096 < n) :
  Calls Tryz.prog 71 #[.agg #[.bool na, .string sa], .int .i64 n] w (RetIE w 0 2) := by
 have hz0 : mg (0 : Int).natAbs = ⟨#[]⟩ := mg_zero
 have hw : decide (n < 0) = true ∨ (decide (n < 0) = false ∧ decide ((4096 : Int) < n) = true) := by
  by_cases h : n < 0
  ·exact .inl (decide_eq_true h)
  ·exact .inr ⟨decide_eq_false h, decide_eq_true (by omega)⟩
 clear hn
 have HL0 := Lib.hid (((Below.refl w.heap.size w).alloc (Nat.le_refl _) (.cells #[.bool na, .string sa] 36)).alloc (by simp) (.cells #[.bool false, .string ⟨#[]⟩] 36))
 have HB1 := Lib.hid (Bx.new (w.alloc (.cells #[.bool na, .string sa] 36)) (w.heap.size + 1) false ⟨#[]⟩ (by simp))
 have HZ0 := Lib.hid hz0
 clear hz0
 rcases hw with t1 | ⟨t1, t2⟩
 all_goals (
  go_enter Tryz.func71, Tryz.ntmps71
  go_upto_region 1 with fail
  obtain ⟨W, hW⟩ : ∃ W, (w.alloc (.cells #[.bool na, .string sa] 36)).alloc (.cells #[.bool false, .string ⟨#[]⟩] 36) = W := ⟨_, rfl⟩
  rw [hW] at HL0 HB1 ⊢
  clear hW
  obtain ⟨r0, r1, r2, r3, _⟩ := id HB1.out
  go_wp2
  refine bodyPost_ret (v := .tuple #[.agg #[.bool false, .string ⟨#[]⟩], .int .i64 2]) (by simp [results, Tryz.results71, go_sem, r0, r1]) rfl ?_
  exact ⟨by rw [HZ0.out]; rfl, (HL0.out.setCell (p := ⟨w.heap.size + 1, 0, none⟩) (Nat.le_succ _) _).setCell (p := ⟨w.heap.size + 1, 1, none⟩) (Nat.le_succ _) _⟩)
theorem bl_size (s : ByteArray) {k : Nat} (h : s.size ≤ k) : bl (bv s.data.toList) ≤ 8 * k := bl_le_iff.2 (by
 have := bv_lt s.data.toList
 rw [p256] at this
 have hl : s.data.toList.length = s.size := by simp
 exact Nat.lt_of_lt_of_le this (Nat.pow_le_pow_right (by decide) (by rw [hl]; omega)))
theorem rPower_limit (na : Bool) (sa : ByteArray) (N : Nat) (w : World) (ha : sa.size ≤ 90000) (h1 : N ≤ 4096) (h2 : 65536 < N * bl (iv na sa).natAbs) :
  Calls Tryz.prog 71 #[.agg #[.bool na, .string sa], .int .i64 N] w (RetIE w 0 4) := by
 have hz0 : mg (0 : Int).natAbs = ⟨#[]⟩ := mg_zero
 have HZ0 := Lib.hid hz0
 have HBt := Lib.hid (fun X => rBits_any na sa X (by omega))
 have hbb := bl_size sa ha
 rw [iv_abs] at h2
 obtain ⟨p, hp⟩ : ∃ p, bl (bv sa.data.toList) = p := ⟨_, rfl⟩
 rw [hp] at HBt h2 hbb
 obtain ⟨P, hP⟩ : ∃ P, p * N = P := ⟨_, rfl⟩
 have hPi : (p : Int) * (N : Int) = P := by rw [← hP]; push_cast; rfl
 have hPb : 65536 < P := by rw [← hP, Nat.mul_comm]; exact h2
 have hPc : P ≤ 8 * 90000 * 4096 := by rw [← hP]; exact Nat.mul_le_mul hbb h1
 have hPd : decide ((65536 : Int) < (P : Nat)) = true := decide_eq_true (by omega)
 have HH1 := Lib.hid h1
 clear hp hP h2 h1 ha hbb hz0
 have n0 : decide ((N : Int) < 0) = false := decide_eq_false (by omega)
 have n1 : decide ((4096 : Int) < N) = false := decide_eq_false (by have := HH1.out; omega)
 have HL0 := Lib.hid (((Below.refl w.heap.size w).alloc (Nat.le_refl _) (.cells #[.bool na, .string sa] 36)).alloc (by simp) (.cells #[.bool false, .string ⟨#[]⟩] 36))
 have HB0 := Lib.hid ((Bx.new w w.heap.size na sa rfl).alloc (.cells #[.bool false, .string ⟨#[]⟩] 36))
 have HB1 := Lib.hid (Bx.new (w.alloc (.cells #[.bool na, .string sa] 36)) (w.heap.size + 1) false ⟨#[]⟩ (by simp))
 go_enter Tryz.func71, Tryz.ntmps71
 go_upto_region 1 with fail
 obtain ⟨W, hW⟩ : ∃ W, (w.alloc (.cells #[.bool na, .string sa] 36)).alloc (.cells #[.bool false, .string ⟨#[]⟩] 36) = W := ⟨_, rfl⟩
 rw [hW] at HL0 HB0 HB1 ⊢
 clear hW
 obtain ⟨x0, x1, x2, x3, _⟩ := id HB0.out
 go_wp2_with (go_at_call 101; refine (HBt.out _).mono ?_; rintro e W1 ⟨rfl, hb⟩; have HL1 := Lib.hid (bstep HL0.out hb); have HR1 := Lib.hid (HB1.out.below hb); obtain ⟨r0, r1, r2, r3, _⟩ := id HR1.out; clear hb)
 refine bodyPost_ret (v := .tuple #[.agg #[.bool false, .string ⟨#[]⟩], .int .i64 4]) (by simp [results, Tryz.results71, go_sem, r0, r1]) rfl ?_
 exact ⟨by rw [HZ0.out]; rfl, (HL1.out.setCell (p := ⟨w.heap.size + 1, 0, none⟩) (Nat.le_succ _) _).setCell (p := ⟨w.heap.size + 1, 1, none⟩) (Nat.le_succ _) _⟩
theorem rPower_any (na : Bool) (sa : ByteArray) (n : Int) (w : World) (ha : sa.size ≤ 90000) :
  Calls Tryz.prog 71 #[.agg #[.bool na, .string sa], .int .i64 n] w (RetIE w (powV (iv na sa) n) (powE (iv na sa) n)) := by
 by_cases hn : n < 0 ∨ 4096 < n
 ·have hE : powE (iv na sa) n = 2 := by unfold powE; rw [if_pos hn]
  have hV : powV (iv na sa) n = 0 := by unfold powV; rw [if_neg (by rw [hE]; decide)]
  rw [hE, hV]
  exact rPower_range na sa n w hn
 ·obtain ⟨N, rfl⟩ : ∃ N : Nat, n = N := ⟨n.toNat, by omega⟩
  by_cases h2 : 65536 < N * bl (iv na sa).natAbs
  ·have hE : powE (iv na sa) N = 4 := by unfold powE; rw [if_neg hn, Int.toNat_natCast, if_pos h2]
   have hV : powV (iv na sa) N = 0 := by unfold powV; rw [if_neg (by rw [hE]; decide)]
   rw [hE, hV]
   exact rPower_limit na sa N w ha (by omega) h2
  ·have hE : powE (iv na sa) N = 0 := by unfold powE; rw [if_neg hn, Int.toNat_natCast, if_neg h2]
   have hV : powV (iv na sa) N = (iv na sa) ^ N := by unfold powV; rw [if_pos hE, Int.toNat_natCast]
   rw [hE, hV]
   exact rPower_main na sa N w ha (by omega) (by omega)
end Go.Proofs.Gv
namespace Go.Proofs.Gv
open Go Go.RowKit
theorem owns_keep {w w' : World} {base size n : Nat} {e : TypeId} {v : Value} {xs : List Value} (h : w.ownsRow base e size v n xs) (hk : ∀ k, base ≤ k → w'.heap[k]? = w.heap[k]?) : w'.ownsRow base e size v n xs := by
 refine ⟨h.1, h.2.imp id ?_⟩
 rintro ⟨g, cap, cur, h1, h2, h3, h4⟩
 exact ⟨g, cap, cur, h1, h2, (hk g h2).trans h3, h4⟩
structure PrSt (w W : World) (g n : Nat) (ns : Bool) (A : Nat) (f : Nat → UInt8) (v : Value) (L : List UInt8) : Prop where
 be : Below w.heap.size w W
 bx : Bx W w.heap.size ns (mg A)
 row : BRow W g n f
 own : W.ownsRow (g + 1) 5 1 v L.length (u8s L)
 hg : w.heap.size < g
 gs : g + 1 ≤ W.heap.size
section
variable {w W : World} {g n A : Nat} {ns : Bool} {f h : Nat → UInt8} {v : Value} {L : List UInt8}
theorem PrSt.congr (H : PrSt w W g n ns A f v L) (e : ∀ j, j < n → f j = h j) : PrSt w W g n ns A h v L := ⟨H.be, H.bx, H.row.congr e, H.own, H.hg, H.gs⟩
theorem PrSt.put (H : PrSt w W g n ns A f v L) (k : Nat) (hk : k < n) {V : Int} {c : UInt8} (hV : V = (c.toNat : Int)) : PrSt w (W.setCell ⟨g, k, none⟩ (.int .u8 V)) g n ns A (fun j => if j = k then c else f j) v L := by
 have hg := H.hg
 have e : ∀ o, (W.setCell ⟨g, k, none⟩ (.int .u8 V)).cell? ⟨w.heap.size, o, none⟩ = W.cell? ⟨w.heap.size, o, none⟩ := fun o => World.cell?_setCell_other _ _ _ _ (fun e => by have := congrArg Addr.block e; simp at this; omega)
 exact ⟨H.be.setCell (p := ⟨g, k, none⟩) (by show w.heap.size ≤ g; omega) _, ⟨(e 0).trans H.bx.c0, (e 1).trans H.bx.c1, by rw [World.frozen?_setCell]; exact H.bx.z0, by rw [World.frozen?_setCell]; exact H.bx.z1, by simpa using H.bx.lt⟩,
  H.row.set' k hk hV, owns_keep H.own fun j hj => Below.heap_setCell _ _ _ _ (by show j ≠ g; omega), H.hg, by simpa using H.gs⟩
theorem PrSt.app (H : PrSt w W g n ns A f v L) {o : Obj} {w1 : World} {v' : Value} {c : UInt8} (hg : (W.alloc o).grownBy w1 v.ownBlock) (ho : w1.ownsRow (g + 1) 5 1 v' (L.length + 1) (u8s L ++ [.int .u8 (c.toNat : Nat)])) :
  PrSt w w1 g n ns A f v' (L ++ [c]) := by
 have hgg := H.hg
 have hB : Below (g + 1) W w1 := ((Below.refl (g + 1) W).alloc H.gs o).grown hg (by have := H.gs; simp; omega) (fun k e => (H.own.lt k e).1)
 have hb2 : Below w.heap.size w w1 := H.be.trans (hB.mono (by omega))
 have hs := hB.size
 refine ⟨hb2, ?_, H.row.below hB (by omega), by rw [u8s_snoc, List.length_append]; exact ho, H.hg, Nat.le_trans H.gs hs⟩
 have hl : w.heap.size < g + 1 := by omega
 exact ⟨(hB.cell (p := ⟨_, 0, none⟩) hl).trans H.bx.c0, (hB.cell (p := ⟨_, 1, none⟩) hl).trans H.bx.c1, (hB.frozen (p := ⟨_, 0, none⟩) hl).trans H.bx.z0, (hB.frozen (p := ⟨_, 1, none⟩) hl).trans H.bx.z1, Nat.lt_of_lt_of_le H.bx.lt hs⟩
end
end Go.Proofs.Gv
namespace Go.Proofs.Gv
open Go Go.RowKit
theorem rsign_w {na : Bool} {sa : ByteArray} {z0 : Int} (w : World)
  (H1 : GivesV 39 #[.agg #[.bool na, .string sa], .agg #[.bool false, .string ⟨#[]⟩]] (.int .i64 z0))
  : Calls Tryz.prog 110 #[.agg #[.bool na, .string sa]] w fun e w' => e = .returned (.int .i64 z0) ∧ Below w.heap.size w w' := by
 replace H1 := Lib.hid H1
 go_enter Tryz.func110, Tryz.ntmps110
 have HL0 := Lib.hid (Below.refl w.heap.size w)
 have HB0 := Lib.hid (show Bs [] w from trivial)
 have HO0 := Lib.hid (show w.heap.size ≤ w.heap.size from by have := HL0.out.size; first | omega | (simp at this; omega))
 obtain ⟨HL1, HB1⟩ := growLB HL0 HB0 (w.heap.size) #[.bool na, .string sa] 36
 clear HL0 HB0
 obtain ⟨fx0_0_1, fx0_1_1⟩ := (HB1.out.1).at2
 go_wp2_with fail
 refine (H1.out _).mono ?_
 rintro e w1 ⟨rfl, hb⟩
 obtain ⟨HL2, HB2⟩ := cameLB HL1 HB1 hb
 clear hb
 clear HL1 HB1 fx0_0_1 fx0_1_1
 go_wp2
 go_ret
 exact ⟨rfl, HL2.out⟩
end Go.Proofs.Gv
namespace Go.Proofs.Gv
open Go Go.RowKit
theorem rlow_pos {nb na ng nx nxr ny nyr : Bool} {sb sa sg sx sxr sy syr : ByteArray} {ex ey : Int} (w : World)
  (H1 : GivesV 110 #[.agg #[.bool nb, .string sb]] (.int .i64 1))
  (H2 : GivesV 132 #[.agg #[.bool na, .string sa], .agg #[.bool nb, .string sb]] (.agg #[.bool ng, .string sg]))
  (H3 : GivesV 133 #[.agg #[.bool na, .string sa], .agg #[.bool ng, .string sg]] (.tuple #[.agg #[.bool nx, .string sx], .agg #[.bool nxr, .string sxr], .int .i64 ex]))
  (H4 : GivesV 133 #[.agg #[.bool nb, .string sb], .agg #[.bool ng, .string sg]] (.tuple #[.agg #[.bool ny, .string sy], .agg #[.bool nyr, .string syr], .int .i64 ey]))
  : Calls Tryz.prog 120 #[.agg #[.bool na, .string sa], .agg #[.bool nb, .string sb]] w fun e w' => e = .returned (.agg #[.bool nx, .string sx, .bool ny, .string sy]) ∧ Below w.heap.size w w' := by
 replace H1 := Lib.hid H1
 replace H2 := Lib.hid H2
 replace H3 := Lib.hid H3
 replace H4 := Lib.hid H4
 go_enter Tryz.func120, Tryz.ntmps120
 have HL0 := Lib.hid (Below.refl w.heap.size w)
 have HB0 := Lib.hid (show Bs [] w from trivial)
 have HO0 := Lib.hid (show w.heap.size ≤ w.heap.size from by have := HL0.out.size; first | omega | (simp at this; omega))
 obtain ⟨HL1, HB1⟩ := growLB HL0 HB0 (w.heap.size) #[.bool na, .string sa] 36
 clear HL0 HB0
 have HO1 := Lib.hid (show w.heap.size < w.heap.size + 1 from by have := (HB1.out.1).lt; first | omega | (simp at this; omega))
 obtain ⟨HL2, HB2⟩ := growLB HL1 HB1 (w.heap.size + 1) #[.bool nb, .string sb] 36
 clear HL1 HB1
 have HO2 := Lib.hid (show w.heap.size + 1 < w.heap.size + 1 + 1 from by have := (HB2.out.1).lt; first | omega | (simp at this; omega))
 obtain ⟨HL3, HB3⟩ := growLB HL2 HB2 (w.heap.size + 1 + 1) #[.bool false, .string ⟨#[]⟩, .bool false, .string ⟨#[]⟩] 85
 clear HL2 HB2
 obtain ⟨fx1_0_3, fx1_1_3⟩ := (HB3.out.2.1).at2
 go_wp2_with fail
 refine (H1.out _).mono ?_
 rintro e w1 ⟨rfl, hb⟩
 obtain ⟨HL4, HB4⟩ := cameLB HL3 HB3 hb
 clear hb
 clear HL3 HB3 fx1_0_3 fx1_1_3
 obtain ⟨fx0_0_4, fx0_1_4⟩ := (HB4.out.2.2.1).at2
 obtain ⟨fx1_0_4, fx1_1_4⟩ := (HB4.out.2.1).at2
 go_wp2_with fail
 refine (H2.out _).mono ?_
 rintro e w2 ⟨rfl, hb⟩
 obtain ⟨HL5, HB5⟩ := cameLB HL4 HB4 hb
 clear hb
 clear HL4 HB4 fx0_0_4 fx0_1_4 fx1_0_4 fx1_1_4
 have HO3 := Lib.hid (show w.heap.size + 1 + 1 < w2.heap.size from by have := (HB5.out.1).lt; first | omega | (simp at this; omega))
 obtain ⟨HL6, HB6⟩ := growLB HL5 HB5 (w2.heap.size) #[.bool ng, .string sg] 36
 clear HL5 HB5
 obtain ⟨fx0_0_6, fx0_1_6⟩ := (HB6.out.2.2.2.1).at2
 obtain ⟨fx3_0_6, fx3_1_6⟩ := (HB6.out.1).at2
 go_wp2_with fail
 refine (H3.out _).mono ?_
 rintro e w3 ⟨rfl, hb⟩
 obtain ⟨HL7, HB7⟩ := cameLB HL6 HB6 hb
 clear hb
 clear HL6 HB6 fx0_0_6 fx0_1_6 fx3_0_6 fx3_1_6
 obtain ⟨fx0_0_7, fx0_1_7⟩ := (HB7.out.2.2.2.1).at2
 obtain ⟨fz0_0_7, fz0_1_7⟩ := (HB7.out.2.2.2.1).z2
 obtain ⟨HL8, HB8⟩ := keptLB (c := w.heap.size) [.bool nx, .string sx] 0 3 HL7 HB7 (by have := HO0.out; have := HO1.out; have := HO2.out; have := HO3.out; omega) (by simp only [Bs.ap, Bs.ap0, List.length_cons, List.length_nil, and_true, true_and]; have := HO0.out; have := HO1.out; have := HO2.out; have := HO3.out; omega)
 simp only [setCs, setL, Bs.put, List.set_cons_succ, List.set_cons_zero, Nat.zero_add, Nat.reduceAdd] at HL8 HB8
 replace HL8 := Lib.hid HL8
 replace HB8 := Lib.hid HB8
 clear HL7 HB7
 obtain ⟨fx1_0_8, fx1_1_8⟩ := (HB8.out.2.2.1).at2
 obtain ⟨fx3_0_8, fx3_1_8⟩ := (HB8.out.1).at2
 go_wp2_with fail
 refine (H4.out _).mono ?_
 rintro e w4 ⟨rfl, hb⟩
 obtain ⟨HL9, HB9⟩ := cameLB HL8 HB8 hb
 clear hb
 clear HL8 HB8 fx0_0_7 fz0_0_7 fx0_1_7 fz0_1_7 fx1_0_8 fx1_1_8 fx3_0_8 fx3_1_8
 obtain ⟨fx1_0_9, fx1_1_9⟩ := (HB9.out.2.2.1).at2
 obtain ⟨fz1_0_9, fz1_1_9⟩ := (HB9.out.2.2.1).z2
 obtain ⟨HL10, HB10⟩ := keptLB (c := w.heap.size + 1) [.bool ny, .string sy] 0 2 HL9 HB9 (by have := HO0.out; have := HO1.out; have := HO2.out; have := HO3.out; omega) (by simp only [Bs.ap, Bs.ap0, List.length_cons, List.length_nil, and_true, true_and]; have := HO0.out; have := HO1.out; have := HO2.out; have := HO3.out; omega)
 simp only [setCs, setL, Bs.put, List.set_cons_succ, List.set_cons_zero, Nat.zero_add, Nat.reduceAdd] at HL10 HB10
 replace HL10 := Lib.hid HL10
 replace HB10 := Lib.hid HB10
 clear HL9 HB9
 obtain ⟨fx0_0_10, fx0_1_10⟩ := (HB10.out.2.2.2.1).at2
 obtain ⟨fx1_0_10, fx1_1_10⟩ := (HB10.out.2.2.1).at2
 obtain ⟨fx2_0_10, fx2_1_10, fx2_2_10, fx2_3_10⟩ := (HB10.out.2.1).at4
 obtain ⟨fz2_0_10, fz2_1_10, fz2_2_10, fz2_3_10⟩ := (HB10.out.2.1).z4
 obtain ⟨HL11, HB11⟩ := keptLB (c := w.heap.size + 1 + 1) [.bool nx, .string sx, .bool ny, .string sy] 0 1 HL10 HB10 (by have := HO0.out; have := HO1.out; have := HO2.out; have := HO3.out; omega) (by simp only [Bs.ap, Bs.ap0, List.length_cons, List.length_nil, and_true, true_and]; have := HO0.out; have := HO1.out; have := HO2.out; have := HO3.out; omega)
 simp only [setCs, setL, Bs.put, List.set_cons_succ, List.set_cons_zero, Nat.zero_add, Nat.reduceAdd] at HL11 HB11
 replace HL11 := Lib.hid HL11
 replace HB11 := Lib.hid HB11
 clear HL10 HB10
 obtain ⟨fx2_0_11, fx2_1_11, fx2_2_11, fx2_3_11⟩ := (HB11.out.2.1).at4
 go_wp2
 refine bodyPost_ret (v := .agg #[.bool nx, .string sx, .bool ny, .string sy]) (by simp [results, Tryz.results120, go_sem, fx2_0_11, fx2_1_11, fx2_2_11, fx2_3_11]) rfl ?_
 exact ⟨rfl, HL11.out⟩
end Go.Proofs.Gv
namespace Go.Proofs.Gv
open Go Go.RowKit
theorem rCanon_w {ma na nr mr : Bool} {ta sa sr tr : ByteArray} (c1 : Int) (h1 : (c1 == 0) = false) (w : World)
  (H1 : GivesV 110 #[.agg #[.bool ma, .string ta]] (.int .i64 c1))
  (H2 : GivesV 120 #[.agg #[.bool na, .string sa], .agg #[.bool ma, .string ta]] (.agg #[.bool nr, .string sr, .bool mr, .string tr]))
  : Calls Tryz.prog 119 #[.agg #[.bool na, .string sa, .bool ma, .string ta]] w fun e w' => e = .returned (.agg #[.bool nr, .string sr, .bool mr, .string tr]) ∧ Below w.heap.size w w' := by
 replace H1 := Lib.hid H1
 replace H2 := Lib.hid H2
 go_enter Tryz.func119, Tryz.ntmps119
 have HL0 := Lib.hid (Below.refl w.heap.size w)
 have HB0 := Lib.hid (show Bs [] w from trivial)
 have HO0 := Lib.hid (show w.heap.size ≤ w.heap.size from by have := HL0.out.size; first | omega | (simp at this; omega))
 obtain ⟨HL1, HB1⟩ := growLB HL0 HB0 (w.heap.size) #[.bool na, .string sa, .bool ma, .string ta] 85
 clear HL0 HB0
 have HO1 := Lib.hid (show w.heap.size < w.heap.size + 1 from by have := (HB1.out.1).lt; first | omega | (simp at this; omega))
 obtain ⟨HL2, HB2⟩ := growLB HL1 HB1 (w.heap.size + 1) #[.bool false, .string ⟨#[]⟩, .bool false, .string ⟨#[]⟩] 85
 clear HL1 HB1
 have fx0_2_2 := (HB2.out.2.1).at 2 (.bool ma) rfl
 have fx0_3_2 := (HB2.out.2.1).at 3 (.string ta) rfl
 go_wp2_with fail
 refine (H1.out _).mono ?_
 rintro e w1 ⟨rfl, hb⟩
 obtain ⟨HL3, HB3⟩ := cameLB HL2 HB2 hb
 clear hb
 clear HL2 HB2 fx0_2_2 fx0_3_2
 obtain ⟨fx0_0_3, fx0_1_3, fx0_2_3, fx0_3_3⟩ := (HB3.out.2.1).at4
 go_wp2_with fail
 refine (H2.out _).mono ?_
 rintro e w2 ⟨rfl, hb⟩
 obtain ⟨HL4, HB4⟩ := cameLB HL3 HB3 hb
 clear hb
 clear HL3 HB3 fx0_0_3 fx0_1_3 fx0_2_3 fx0_3_3
 obtain ⟨fx1_0_4, fx1_1_4, fx1_2_4, fx1_3_4⟩ := (HB4.out.1).at4
 obtain ⟨fz1_0_4, fz1_1_4, fz1_2_4, fz1_3_4⟩ := (HB4.out.1).z4
 obtain ⟨HL5, HB5⟩ := keptLB (c := w.heap.size + 1) [.bool nr, .string sr, .bool mr, .string tr] 0 0 HL4 HB4 (by have := HO0.out; have := HO1.out; omega) (by simp only [Bs.ap, Bs.ap0, List.length_cons, List.length_nil, and_true, true_and]; have := HO0.out; have := HO1.out; omega)
 simp only [setCs, setL, Bs.put, List.set_cons_succ, List.set_cons_zero, Nat.zero_add, Nat.reduceAdd] at HL5 HB5
 replace HL5 := Lib.hid HL5
 replace HB5 := Lib.hid HB5
 clear HL4 HB4
 obtain ⟨fx1_0_5, fx1_1_5, fx1_2_5, fx1_3_5⟩ := (HB5.out.1).at4
 go_wp2
 refine bodyPost_ret (v := .agg #[.bool nr, .string sr, .bool mr, .string tr]) (by simp [results, Tryz.results119, go_sem, fx1_0_5, fx1_1_5, fx1_2_5, fx1_3_5]) rfl ?_
 exact ⟨rfl, HL5.out⟩
end Go.Proofs.Gv
