import Derived.Test.YtfhncfphphieiaaGreatQop
set_option maxHeartbeats 4000000
set_option maxRecDepth 100000
set_option linter.unusedSimpArgs false
set_option linter.unusedVariables false
namespace Go.Proofs.Gv
open Go Go.RowKit Go.Maps
theorem pwN_sm : pwN ≤ 100000 ∧ pwN + 10 ≤ 100000 := by unfold pwN; decide
theorem iv_mgQ (d : Nat) : iv false (mg d) = (d : Int) := by unfold iv; simp [bv_mg]
theorem rPow2Q (n : Nat) (hn : n ≤ 64) (W : World) :
  Calls Tryz.prog 71 #[.agg #[.bool false, .string (mg 2)], .int .i64 (n : Int)] W fun e w' => e = .returned (.tuple #[.agg #[.bool false, .string (mg (2 ^ n))], .int .i64 0]) ∧ Below W.heap.size W w' := by
 have h := rPower_main false (mg 2) n W (Nat.le_trans (size_mg (n := 2) (k := 1) (by decide)) (by decide)) (by omega) (by
  rw [iv_mgQ]
  exact Nat.le_trans (Nat.mul_le_mul hn (bl_lt (N := 5) (by decide))) (by decide))
 unfold RetIE at h
 rw [iv_mgQ, show (((2 : Nat) : Int) ^ n) = ((2 ^ n : Nat) : Int) by simp, Int.natAbs_natCast, show sgn ((2 ^ n : Nat) : Int) = false from decide_eq_false (by exact Int.not_lt.2 (Int.natCast_nonneg _))] at h
 exact h
theorem rfits64_any {ds : List Nat} {n : Nat} (A : Addr) (c : Nat) (hn : ds.length = n) (hl : n ≤ 1000) (hd : ∀ d ∈ ds, d ≤ 64) (w : World) (hr : NRo w A ds) :
  Calls Tryz.prog 38 #[.int .i64 2, .slice (some A) n c] w fun e w' => e = .returned (.bool (decide ((pws 2 ds).sum ≤ 2 ^ 64))) ∧ Below w.heap.size w w' := by
 have HN := Lib.hid hn
 have HR := Lib.hid hr
 have HD := Lib.hid hd
 have HPL := Lib.hid (show (pws 2 ds).sum < 2 ^ (pwN + 10) from pws_lt (by decide) ds (by omega))
 have HQ := Lib.hid (fun W => rOfM (d := 2) (by decide) W)
 have HPW := Lib.hid (fun d W => rPow2Q (64 - d) (by omega) W)
 have HP64 := Lib.hid (fun W => rPow2Q 64 (by decide) W)
 have HPX := Lib.hid (fun d => show 2 ^ (64 - d) < 2 ^ pwN from pw_lt (q := 2) (d := d) (by decide))
 have HFIN := Lib.hid (cmp_le (pws 2 ds).sum (2 ^ 64))
 obtain ⟨BB, hBB⟩ : ∃ B, decide ((pws 2 ds).sum ≤ 2 ^ 64) = B := ⟨_, rfl⟩
 rw [hBB] at HFIN ⊢
 obtain ⟨P, hP⟩ : ∃ P, 2 ^ 64 = P := ⟨_, rfl⟩
 have HPV := Lib.hid (show P < 2 ^ pwN from by rw [← hP]; exact pw_lt (q := 2) (d := 0) (by decide))
 rw [hP] at HP64 HFIN
 clear hr hd hBB hn hP
 go_enter Tryz.func38, Tryz.ntmps38
 go_wp2_with fail
 refine (HQ.out _).mono ?_
 rintro e w1 ⟨rfl, hb1⟩
 have HB1 := Lib.hid hb1
 clear hb1
 go_wp2_with fail
 refine (HP64.out _).mono ?_
 rintro e w2 ⟨rfl, hb2⟩
 have HB2 := Lib.hid (bstep HB1.out hb2)
 clear hb2
 go_upto_region 2 with fail
 have hb3 : Below w2.heap.size w2 (w2.alloc (.cells #[.bool false, .string (mg P)] 36)) := (Below.refl _ _).alloc (Nat.le_refl _) _
 have HP5 := Lib.hid ((BC.new w2 w2.heap.size #[.bool false, .string (mg P)] 36 rfl).alloc (.cells #[.bool false, .string ⟨#[]⟩] 36))
 have HP7 := Lib.hid (BC.new (w2.alloc (.cells #[.bool false, .string (mg P)] 36)) (w2.heap.size + 1) #[.bool false, .string ⟨#[]⟩] 36 (by simp))
 have HL0 := Lib.hid (hb3.alloc (by simp) (.cells #[.bool false, .string ⟨#[]⟩] 36))
 clear hb3
 go_upto_region 3 with fail
 obtain ⟨W0, hW0⟩ : ∃ X, (w2.alloc (.cells #[.bool false, .string (mg P)] 36)).alloc (.cells #[.bool false, .string ⟨#[]⟩] 36) = X := ⟨_, rfl⟩
 rw [hW0] at HP5 HP7 HL0 ⊢
 rw [← mg_zero] at HP7
 obtain ⟨B5, hB5⟩ : ∃ b, w2.heap.size = b := ⟨_, rfl⟩
 have HBE := Lib.hid hB5
 rw [hB5] at HP5 HP7 HL0 ⊢
 obtain ⟨B7, hB7⟩ : ∃ b, B5 + 1 = b := ⟨_, rfl⟩
 have HO := Lib.hid (show B5 < B7 from by omega)
 rw [hB7] at HP7 ⊢
 clear hW0 hB5 hB7
 go_wp2_with fail
 go_loopg [8] (n + 1) (fun gg v8 wr => ∃ i : Nat, v8 = .int .i64 (i : Int) ∧ i ≤ n ∧ n - i < gg ∧ BC wr B5 [.bool false, .string (mg P)] ∧ BC wr B7 [.bool false, .string (mg ((pws 2 ds).take i).sum)] ∧ Below B5 w2 wr)
 case atStart => exact ⟨0, rfl, Nat.zero_le _, by omega, HP5.out, HP7.out, HL0.out⟩
 case round =>
  obtain ⟨i, rfl, hi, hig, h5, h7, hbl⟩ := hrel
  have HG := Lib.hid hig
  have H5 := Lib.hid h5
  have H7 := Lib.hid h7
  have HL := Lib.hid hbl
  have HBW := Lib.hid (bstep HB2.out (show Below w2.heap.size w2 wr from by rw [HBE.out]; exact hbl))
  clear hig h5 h7 hbl HP5 HP7 HL0
  by_cases hlt : i < n
  ·have hltI : (i : Int) < n := by omega
   obtain ⟨d, hd⟩ : ∃ d, ds[i]? = some d := ⟨ds[i]'(by rw [HN.out]; exact hlt), List.getElem?_eq_getElem _⟩
   have hd2 := HD.out d (List.mem_of_getElem? hd)
   have c3 := (HR.out.below HBW.out) i d hd
   have HSX := Lib.hid (show ((pws 2 ds).take (i + 1)).sum = ((pws 2 ds).take i).sum + 2 ^ (64 - d) from take_sum_succ (pws_at hd))
   have HST := Lib.hid (show ((pws 2 ds).take i).sum < 2 ^ (pwN + 10) from Nat.lt_of_le_of_lt (take_sum_le _ i) HPL.out)
   have HPd := Lib.hid (show ∀ W, Calls Tryz.prog 71 #[.agg #[.bool false, .string (mg 2)], .int .i64 (64 - (d : Int))] W fun e w' => e = .returned (.tuple #[.agg #[.bool false, .string (mg (2 ^ (64 - d)))], .int .i64 0]) ∧ Below W.heap.size W w' from fun W => by have := HPW.out d W; rwa [show ((64 - d : Nat) : Int) = 64 - (d : Int) by omega] at this)
   have HXd := Lib.hid (HPX.out d)
   clear hd
   obtain ⟨p, hp⟩ : ∃ p, 2 ^ (64 - d) = p := ⟨_, rfl⟩
   rw [hp] at HSX HPd HXd
   have HAD := Lib.hid (fun W => rAddN (x := ((pws 2 ds).take i).sum) (d := p) (pwN + 10) pwN HST.out HXd.out pwN_sm.2 pwN_sm.1 W)
   obtain ⟨S, hS⟩ : ∃ S, ((pws 2 ds).take i).sum = S := ⟨_, rfl⟩
   rw [hS] at HSX HST HAD H7
   clear hp hS
   go_upto_region 6 with fail
   refine wp_region_front 13 zvI (by kernel_rfl) shI (by kernel_rfl) (by kernel_rfl) (zvI_alloc _ (by kernel_rfl)) (shI_store _ (by kernel_rfl)) ?_
   intro mm BW hm1 hm2 hBW
   haveI := clm_some mm BW
   have fq1 := fun u : Clm mm BW => u.cellM hm1 hBW c3
   simp only [frontOf, unmade, List.take_succ_cons, List.take_zero, List.map_cons, List.map_nil]
   go_big_quiet_step (fail)
   go_big_quiet_step ((go_at_call 46; exact quiet_clm hm2 HQ.out _))
   iterate 5 (go_big_quiet_step (fail))
   go_big_quiet_step ((go_at_call 71; exact quiet_clm hm2 HPd.out _))
   iterate 5 (go_big_quiet_step (fail))
   refine wpQuiet_nil ?_
   refine ⟨List.forall_mem_cons.2 ⟨by kernel_rfl, List.forall_mem_nil _⟩, ?_⟩
   intro γ w9 hb9 hF
   clear hBW this hm1 hm2 fq1
   clear BW mm
   simp only [madesFrom, Facts, patch, List.take_succ_cons, List.take_zero, List.drop_succ_cons, List.drop_zero, Nat.zero_add, Nat.reduceAdd, List.mem_cons, List.not_mem_nil, or_false, forall_eq, forall_eq_or_imp, false_imp_iff, implies_true, and_true] at hF ⊢
   obtain ⟨hp, hl, hk⟩ := hF
   obtain ⟨B9, hG⟩ : ∃ B, γ 11 = B := ⟨_, rfl⟩
   rw [hG] at hp hl hk ⊢
   clear hG γ c3
   have H9 := Lib.hid (show BC w9 B9 [.bool false, .string (mg p)] from BC.of hk)
   have H7a := Lib.hid (H7.out.below hb9)
   have H5a := Lib.hid (H5.out.below hb9)
   have HLa := Lib.hid (HL.out.trans (hb9.mono (by have := HL.out.size; have := HBE.out; omega)))
   clear hb9 hp hl hk H7 H5 HL HBW
   go_upto_region 7 with fail
   go_upto_region 7 with fail
   have x0 := H7a.out.at 0 _ rfl
   have x1 := H7a.out.at 1 _ rfl
   have x2 := H9.out.at 0 _ rfl
   have x3 := H9.out.at 1 _ rfl
   go_wp2_with fail
   refine (HAD.out _).mono ?_
   rintro e w4 ⟨rfl, hb4⟩
   have H7b := Lib.hid (H7a.out.below hb4)
   have HLb := Lib.hid (HLa.out.trans (hb4.mono (by have := HLa.out.size; have := HBE.out; omega)))
   have H5b := Lib.hid (H5a.out.below hb4)
   clear hb4 x0 x1 x2 x3 H7a HLa H5a H9
   have y0 := H7b.out.at 0 _ rfl
   have y1 := H7b.out.at 1 _ rfl
   have y2 := H7b.out.z 0 (by simp)
   have y3 := H7b.out.z 1 (by simp)
   go_wp2_with fail
   go_roundg (n - i)
   case rel =>
    refine ⟨i + 1, by go_num, by omega, by omega, ?_, ?_, ?_⟩
    ·exact H5b.out.other2 0 1 _ _ (by have := HO.out; omega)
    ·rw [HSX.out]
     exact H7b.out.set2 0 1 (.bool false) (.string (mg (S + p))) (by simp) (by simp)
    ·have := HO.out
     exact (HLb.out.setCell (p := ⟨B7, 0, none⟩) (by simp; omega) _).setCell (p := ⟨B7, 1, none⟩) (by simp; omega) _
   case measure => have := HG.out; omega
  ·obtain rfl : i = n := by omega
   have hB : decide ((i : Int) < i) = false := by simp
   have hT : ((pws 2 ds).take i).sum = (pws 2 ds).sum := by rw [List.take_of_length_le (by unfold pws; rw [List.length_map]; exact Nat.le_of_eq HN.out)]
   rw [hT] at H7
   have HC := Lib.hid (fun W => rCmpN (x := (pws 2 ds).sum) (d := P) (pwN + 10) pwN HPL.out HPV.out pwN_le.2 pwN_le.1 W)
   obtain ⟨S, hS⟩ : ∃ S, (pws 2 ds).sum = S := ⟨_, rfl⟩
   rw [hS] at HC H7 HFIN
   obtain ⟨r, hr⟩ : ∃ r, cmpI (S : Int) (P : Int) = r := ⟨_, rfl⟩
   rw [hr] at HC HFIN
   have hfin := HFIN.out
   have x0 := H7.out.at 0 _ rfl
   have x1 := H7.out.at 1 _ rfl
   have x2 := H5.out.at 0 _ rfl
   have x3 := H5.out.at 1 _ rfl
   clear hT hS hr
   go_wp2_with fail
   refine (HC.out _).mono ?_
   rintro e w4 ⟨rfl, hb4⟩
   have HZ := Lib.hid (bstep HBW.out hb4)
   clear hb4 x0 x1 x2 x3
   go_wp2
   go_ret
   exact ⟨rfl, HZ.out⟩
theorem rOptimal_any (cap : Nat) (a : Option Addr) (L : List (Bool × ByteArray)) (v : Value) (xs : List Int) (hL : L.length ≤ maxLen) (h12 : L.length ≤ 12 ∨ 64 < L.length) (hx : xs.length ≤ maxLen) (hz : ∀ x ∈ L, x.2.size ≤ 8) (w : World) (hSl : Sl w a L) (hv : RowO w v (intsV xs)) :
  Calls Tryz.prog 15 #[.slice a L.length cap, v] w fun e w' => e = .returned (.tuple #[.bool (optV L xs), .int .i64 (costE L xs)]) ∧ Below w.heap.size w w' := by
 have HC := Lib.hid (rcklO_any cap a L v xs hL hx (fun x hx => Nat.le_trans (hz x hx) (by decide)) w hSl hv)
 by_cases h0 : ¬ costE L xs = 0
 ·have HO := Lib.hid (show optV L xs = false by unfold optV; rw [if_pos h0])
  obtain ⟨E, hE⟩ : ∃ E, costE L xs = E := ⟨_, rfl⟩
  rw [hE] at HC h0
  have HE := Lib.hid hE
  have hne : (E != 0) = true := by simpa using h0
  clear h0 hE hSl hz hv hx hL h12
  go_enter Tryz.func15, Tryz.ntmps15
  go_wp2_with fail
  refine HC.out.mono ?_
  rintro e w1 ⟨rfl, hb⟩
  go_wp2
  go_ret2
  exact ⟨by rw [HO.out, HE.out]; rfl, hb⟩
 have h0 := Decidable.not_not.1 h0
 rw [h0] at HC
 have hcw : chkW L = 0 := by
  cases hh : decide (chkW L = 0) with
  | true => simpa using hh
  | false => exfalso; unfold costE at h0; rw [if_pos (by simpa using hh)] at h0; simp at hh; exact hh h0
 obtain ⟨g2, g64, Ws, hWs⟩ := chkW_ok hcw
 have HLN := Lib.hid (fun W (hb : Below w.heap.size w W) => rLen_any cap a L 2 (by decide) hL h12 hz W (hSl.below hb))
 unfold RLn at HLN
 have hrl : rlnE 2 L = 0 := by unfold rlnE; rw [if_neg (by decide)]; exact hcw
 rw [hrl] at HLN
 obtain rfl : L = VL Ws := hWs
 rw [VL_len] at g2 g64 HC HLN h12 ⊢
 obtain ⟨ds, hds, hdl, hd64⟩ : ∃ ds : List Nat, xs = ds.map (fun (k : Nat) => (k : Int)) ∧ ds.length = Ws.length ∧ ∀ d ∈ ds, 1 ≤ d ∧ d ≤ 64 := by
  have h1 := h0
  unfold costE at h1
  rw [if_neg (by rw [hcw]; simp)] at h1
  by_cases h2 : xs.length ≠ (VL Ws).length
  ·rw [if_pos h2] at h1; cases h1
  ·rw [if_neg h2] at h1
   by_cases h3 : xs.any badL = true
   ·rw [if_pos h3] at h1; cases h1
   ·obtain ⟨ds, e, hd⟩ := not_bad (by simpa using h3)
    refine ⟨ds, e, ?_, hd⟩
    have h2' := Decidable.not_not.1 h2
    rw [e, List.length_map, VL_len] at h2'
    exact h2'
 subst hds
 rw [← natV_ints] at hv
 have HRO := Lib.hid hv
 obtain ⟨g, c, rfl, hnr⟩ := hv.nr (by omega)
 have HWZ := Lib.hid (VL_lt hz)
 have HO := Lib.hid (show optV (VL Ws) (ds.map fun (k : Nat) => (k : Int)) = (decide ((pws 2 ds).sum ≤ 2 ^ 64) && decide (csum Ws ds = csum Ws (lenH 2 Ws))) by
  unfold optV; rw [if_neg (by rw [h0]; simp), natsOf_cast, wtsOf_VL])
 have HE := Lib.hid h0
 have HCO := Lib.hid (fun W (hb : Below w.heap.size w W) => rcost38O_any a cap 64 Ws ds (.slice (some g) ds.length c) hdl (by omega) HWZ.out (fun d hd => Nat.lt_of_le_of_lt (hd64 d hd).2 (by decide)) (by decide) W (hSl.below hb) (HRO.out.below hb))
 have HFT := Lib.hid (fun W (hb : Below w.heap.size w W) => rfits64_any g c hdl (by omega) (fun d hd => (hd64 d hd).2) W (hnr.below hb))
 have HCI := Lib.hid (fun v W (hb : Below w.heap.size w W) hv => rcost38O_any a cap 64 Ws (lenH 2 Ws) v (lenH_len _ _) (by omega) HWZ.out (fun d hd => Nat.lt_of_le_of_lt (lens_64 (by decide) g2 g64 d hd).2 (by decide)) (by decide) W (hSl.below hb) hv)
 have HCM := Lib.hid (fun W => rCmpN (x := csum Ws ds) (d := csum Ws (lenH 2 Ws)) (64 + 62 + 10) (64 + 62 + 10) (csum_lt hdl HWZ.out (fun d hd => Nat.lt_of_le_of_lt (hd64 d hd).2 (by decide)) (by omega)) (csum_lt (lenH_len _ _) HWZ.out (fun d hd => Nat.lt_of_le_of_lt (lens_64 (by decide) g2 g64 d hd).2 (by decide)) (by omega)) (by decide) (by decide) W)
 have HLL := Lib.hid (lenH_len 2 Ws)
 have HCQ := Lib.hid (show ((cmpI ((csum Ws ds : Nat) : Int) ((csum Ws (lenH 2 Ws) : Nat) : Int)) == 0) = decide (csum Ws ds = csum Ws (lenH 2 Ws)) from by
  generalize csum Ws ds = x
  generalize csum Ws (lenH 2 Ws) = y
  unfold cmpI
  by_cases h : x < y
  ·rw [if_pos (by omega), decide_eq_false (by omega)]; rfl
  ·rw [if_neg (by omega)]
   by_cases h3 : y < x
   ·rw [if_pos (by omega), decide_eq_false (by omega)]; rfl
   ·rw [if_neg (by omega), decide_eq_true (by omega)]; rfl)
 unfold VN at HCO HCI
 obtain ⟨c0, hc0⟩ : ∃ c, csum Ws ds = c := ⟨_, rfl⟩
 obtain ⟨c1, hc1⟩ : ∃ c, csum Ws (lenH 2 Ws) = c := ⟨_, rfl⟩
 rw [hc0, hc1] at HO HCM HCQ
 rw [hc0] at HCO
 rw [hc1] at HCI
 obtain ⟨ft, hft⟩ : ∃ b, decide ((pws 2 ds).sum ≤ 2 ^ 64) = b := ⟨_, rfl⟩
 obtain ⟨eq, heq⟩ : ∃ b, decide (c0 = c1) = b := ⟨_, rfl⟩
 rw [hft] at HO HFT
 rw [heq] at HO HCQ
 obtain ⟨r, hr⟩ : ∃ r, cmpI (c0 : Int) (c1 : Int) = r := ⟨_, rfl⟩
 rw [hr] at HCM HCQ
 have hrq := HCQ.out
 obtain ⟨R, hR⟩ : ∃ R, optV (VL Ws) (ds.map fun (k : Nat) => (k : Int)) = R := ⟨_, rfl⟩
 rw [hR] at HO ⊢
 rw [h0, hdl]
 rw [hdl] at HCO HC
 clear hc0 hc1 h0 hcw hd64 hv hnr hz hx hL hft heq hr hSl hR h12 hrl HRO hdl
 go_enter Tryz.func15, Tryz.ntmps15
 go_wp2_with fail
 refine HC.out.mono ?_
 rintro e w1 ⟨rfl, hb1⟩
 have HB1 := Lib.hid hb1
 clear hb1
 go_wp2_with fail
 refine (HLN.out _ HB1.out).mono ?_
 rintro e w2 ⟨-, hln, hb2⟩
 obtain ⟨Us, g8, c8, e1, rfl, hbc, -, -⟩ := hln trivial
 obtain rfl := VL_inj e1
 have HB2 := Lib.hid (bstep HB1.out hb2)
 have HG8 := Lib.hid hbc
 clear hb2 hln hbc HB1
 rw [show (2 : Int).toNat = 2 from rfl] at HG8
 cases ft with
 | false =>
   go_wp2_with fail
   refine (HFT.out _ HB2.out).mono ?_
   rintro e w3 ⟨rfl, hb3⟩
   have HB3 := Lib.hid (bstep HB2.out hb3)
   clear hb3
   go_wp2
   go_ret2
   exact ⟨by rw [HO.out]; rfl, HB3.out⟩
 | true =>
   go_wp2_with fail
   refine (HFT.out _ HB2.out).mono ?_
   rintro e w3 ⟨rfl, hb3⟩
   have HB3 := Lib.hid (bstep HB2.out hb3)
   have HG83 := Lib.hid (HG8.out.below hb3)
   clear hb3
   go_wp2_with fail
   refine (HCO.out _ HB3.out).mono ?_
   rintro e w4 ⟨rfl, hb4⟩
   have HB4 := Lib.hid (bstep HB3.out hb4)
   have HG84 := Lib.hid (HG83.out.below hb4)
   clear hb4
   have HRW := Lib.hid (show RowO w4 (.slice (some ⟨g8, 0, none⟩) Ws.length c8) (natV (lenH 2 Ws)) from ⟨some ⟨g8, 0, none⟩, c8, by rw [natV_len, HLL.out], fun i x hi => ⟨_, rfl, by
    rw [show (⟨g8, 0, none⟩ : Addr).add i = ⟨g8, i, none⟩ from by unfold Addr.add; split <;> simp_all]
    exact HG84.out.at i x hi⟩⟩)
   go_wp2_with fail
   refine (HCI.out _ _ HB4.out HRW.out).mono ?_
   rintro e w5 ⟨rfl, hb5⟩
   have HB5 := Lib.hid (bstep HB4.out hb5)
   clear hb5
   go_wp2_with fail
   refine (HCM.out _).mono ?_
   rintro e w6 ⟨rfl, hb6⟩
   have HB6 := Lib.hid (bstep HB5.out hb6)
   clear hb6
   go_wp2
   go_ret2
   exact ⟨by rw [HO.out]; simp, HB6.out⟩
end Go.Proofs.Gv
