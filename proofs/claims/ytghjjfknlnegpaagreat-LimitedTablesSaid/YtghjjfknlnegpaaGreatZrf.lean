/- grooveref38.Fits and grooveref39.Check at any table and any lengths. -/
import Derived.Test.YtghjjfknlnegpaaGreatRefPwrP
set_option linter.unusedSimpArgs false
set_option linter.unusedVariables false
namespace Go.Proofs.Gv
open Go Go.RowKit Go.Maps

theorem rPow2 (n : Nat) (hn : n ≤ 64) (W : World) :
    Calls Tryz.prog 61 #[.agg #[.bool false, .string (mg 2)], .int .i64 (n : Int)] W fun e w' => e = .returned (.tuple #[.agg #[.bool false, .string (mg (2 ^ n))], .int .i64 0]) ∧ Below W.heap.size W w' := by
  have h := rPower_main false (mg 2) n W (Nat.le_trans (size_mg (n := 2) (k := 1) (by decide)) (by decide)) (by omega) (by
    rw [iv_mg9]
    exact Nat.le_trans (Nat.mul_le_mul hn (bl_lt (N := 5) (by decide))) (by decide))
  unfold RetIE at h
  rw [iv_mg9, show (((2 : Nat) : Int) ^ n) = ((2 ^ n : Nat) : Int) by simp, Int.natAbs_natCast, show sgn ((2 ^ n : Nat) : Int) = false from decide_eq_false (by exact Int.not_lt.2 (Int.natCast_nonneg _))] at h
  exact h
def k64 (ds : List Nat) : List Nat := ds.map fun d => 2 ^ (64 - d)
theorem k64_at {ds : List Nat} {i d : Nat} (h : ds[i]? = some d) : (k64 ds)[i]? = some (2 ^ (64 - d)) := by unfold k64; rw [List.getElem?_map, h]; rfl
theorem p64_lt (d : Nat) : 2 ^ (64 - d) < 2 ^ 65 := Nat.pow_lt_pow_right (by decide) (by omega)
theorem k64_lt (ds : List Nat) (hl : ds.length ≤ 1000) : (k64 ds).sum < 2 ^ 75 := sum_lt (N := 65) (fun z hz => by
    unfold k64 at hz
    obtain ⟨d, -, rfl⟩ := List.mem_map.1 hz
    exact p64_lt d) (by unfold k64; rw [List.length_map]; exact hl)
theorem k64_le {ds : List Nat} (h : ∀ d ∈ ds, d ≤ 32) : decide (cmpI (((k64 ds).sum : Nat) : Int) ((2 ^ 64 : Nat) : Int) ≤ 0) = decide (krL 32 ds ≤ 2 ^ 32) := by
  have e : (k64 ds).sum = 2 ^ 32 * krL 32 ds := krL_upk 32 32 ds h
  have e2 : (2 : Nat) ^ 64 = 2 ^ 32 * 2 ^ 32 := by decide
  have h1 : ((k64 ds).sum ≤ 2 ^ 64) ↔ krL 32 ds ≤ 2 ^ 32 := by
    rw [e, e2]
    exact ⟨fun h => Nat.le_of_mul_le_mul_left h (by decide), fun h => Nat.mul_le_mul_left _ h⟩
  rw [decide_eq_decide, ← h1]
  generalize (k64 ds).sum = x
  generalize 2 ^ 64 = y
  unfold cmpI
  split
  · rename_i h; exact ⟨fun _ => by omega, fun _ => by decide⟩
  · split
    · exact ⟨fun h => by omega, fun h => by omega⟩
    · exact ⟨fun _ => by omega, fun _ => by decide⟩
set_option maxRecDepth 100000 in
set_option maxHeartbeats 4000000 in
theorem rfits38_any {ds : List Nat} {n : Nat} (a : Option Addr) (c : Nat) (hn : ds.length = n) (hl : n ≤ 1000) (hd : ∀ d ∈ ds, d ≤ 32) (w : World) (hr : NSx w a (ds.map fun (k : Nat) => (k : Int))) :
    Calls Tryz.prog 35 #[.int .i64 2, .slice a n c] w fun e w' => e = .returned (.bool (decide (krL 32 ds ≤ 2 ^ 32))) ∧ Below w.heap.size w w' := by
  have HN := Lib.hid hn
  have HR := Lib.hid hr
  have HD := Lib.hid hd
  have HPL := Lib.hid (k64_lt ds (by omega))
  have HQ := Lib.hid (fun W => rOfM (d := 2) (by decide) W)
  have HPW := Lib.hid (fun d W => rPow2 (64 - d) (by omega) W)
  have HP64 := Lib.hid (fun W => rPow2 64 (by decide) W)
  have HPX := Lib.hid p64_lt
  have HFIN := Lib.hid (k64_le hd)
  obtain ⟨BB, hBB⟩ : ∃ B, decide (krL 32 ds ≤ 2 ^ 32) = B := ⟨_, rfl⟩
  rw [hBB] at HFIN ⊢
  obtain ⟨P, hP⟩ : ∃ P, 2 ^ 64 = P := ⟨_, rfl⟩
  have HPV := Lib.hid (show P < 2 ^ 65 from by rw [← hP]; decide)
  rw [hP] at HP64 HFIN
  clear hr hd hBB hn hP
  go_enter Tryz.func35, Tryz.ntmps35
  go_wp2_with fail
  refine (HQ.out _).mono ?_
  rintro e w1 ⟨rfl, hb1⟩
  have HB1 := Lib.hid hb1
  clear hb1
  go_wp2_with fail
  refine (HP64.out _).mono ?_
  rintro e w2 ⟨rfl, hb2⟩
  have HB2 := Lib.hid (bstep HB1.out hb2)
  clear hb2
  go_upto_region 2 with fail
  have hb3 : Below w2.heap.size w2 (w2.alloc (.cells #[.bool false, .string (mg P)] 29)) := (Below.refl _ _).alloc (Nat.le_refl _) _
  have HP5 := Lib.hid ((BC.new w2 w2.heap.size #[.bool false, .string (mg P)] 29 rfl).alloc (.cells #[.bool false, .string ⟨#[]⟩] 29))
  have HP7 := Lib.hid (BC.new (w2.alloc (.cells #[.bool false, .string (mg P)] 29)) (w2.heap.size + 1) #[.bool false, .string ⟨#[]⟩] 29 (by simp))
  have HL0 := Lib.hid (hb3.alloc (by simp) (.cells #[.bool false, .string ⟨#[]⟩] 29))
  clear hb3
  go_upto_region 3 with fail
  obtain ⟨W0, hW0⟩ : ∃ X, (w2.alloc (.cells #[.bool false, .string (mg P)] 29)).alloc (.cells #[.bool false, .string ⟨#[]⟩] 29) = X := ⟨_, rfl⟩
  rw [hW0] at HP5 HP7 HL0 ⊢
  rw [← mg_zero] at HP7
  obtain ⟨B5, hB5⟩ : ∃ b, w2.heap.size = b := ⟨_, rfl⟩
  have HBE := Lib.hid hB5
  rw [hB5] at HP5 HP7 HL0 ⊢
  obtain ⟨B7, hB7⟩ : ∃ b, B5 + 1 = b := ⟨_, rfl⟩
  have HO := Lib.hid (show B5 < B7 from by omega)
  rw [hB7] at HP7 ⊢
  clear hW0 hB5 hB7
  go_wp2_with fail
  go_loopg [8] (n + 1) (fun gg v8 wr => ∃ i : Nat, v8 = .int .i64 (i : Int) ∧ i ≤ n ∧ n - i < gg ∧ BC wr B5 [.bool false, .string (mg P)] ∧ BC wr B7 [.bool false, .string (mg ((k64 ds).take i).sum)] ∧ Below B5 w2 wr)
  case atStart => exact ⟨0, rfl, Nat.zero_le _, by omega, HP5.out, HP7.out, HL0.out⟩
  case round =>
    obtain ⟨i, rfl, hi, hig, h5, h7, hbl⟩ := hrel
    have HG := Lib.hid hig
    have H5 := Lib.hid h5
    have H7 := Lib.hid h7
    have HL := Lib.hid hbl
    have HBW := Lib.hid (bstep HB2.out (show Below w2.heap.size w2 wr from by rw [HBE.out]; exact hbl))
    clear hig h5 h7 hbl HP5 HP7 HL0
    by_cases hlt : i < n
    · have hltI : (i : Int) < n := by omega
      obtain ⟨d, hd⟩ : ∃ d, ds[i]? = some d := ⟨ds[i]'(by rw [HN.out]; exact hlt), List.getElem?_eq_getElem _⟩
      have hd2 := HD.out d (List.mem_of_getElem? hd)
      obtain ⟨G, rfl, c3⟩ := (HR.out.below HBW.out) i (d : Int) (by rw [List.getElem?_map, hd]; rfl)
      have HSX := Lib.hid (show ((k64 ds).take (i + 1)).sum = ((k64 ds).take i).sum + 2 ^ (64 - d) from take_sum_succ (k64_at hd))
      have HST := Lib.hid (show ((k64 ds).take i).sum < 2 ^ 75 from Nat.lt_of_le_of_lt (take_sum_le _ i) HPL.out)
      have HPd := Lib.hid (show ∀ W, Calls Tryz.prog 61 #[.agg #[.bool false, .string (mg 2)], .int .i64 (64 - (d : Int))] W fun e w' => e = .returned (.tuple #[.agg #[.bool false, .string (mg (2 ^ (64 - d)))], .int .i64 0]) ∧ Below W.heap.size W w' from fun W => by have := HPW.out d W; rwa [show ((64 - d : Nat) : Int) = 64 - (d : Int) by omega] at this)
      have HXd := Lib.hid (HPX.out d)
      clear hd
      obtain ⟨p, hp⟩ : ∃ p, 2 ^ (64 - d) = p := ⟨_, rfl⟩
      rw [hp] at HSX HPd HXd
      have HAD := Lib.hid (fun W => rAddN (x := ((k64 ds).take i).sum) (d := p) 75 65 HST.out HXd.out (by omega) (by omega) W)
      obtain ⟨S, hS⟩ : ∃ S, ((k64 ds).take i).sum = S := ⟨_, rfl⟩
      rw [hS] at HSX HST HAD H7
      clear hp hS
      go_upto_region 6 with fail
      refine wp_region_front 13 zvI (by kernel_rfl) shI (by kernel_rfl) (by kernel_rfl) (zvI_alloc _ (by kernel_rfl)) (shI_store _ (by kernel_rfl)) ?_
      intro mm BW hm1 hm2 hBW
      haveI := clm_some mm BW
      have fq1 := fun u : Clm mm BW => u.cellM hm1 hBW c3
      simp only [frontOf, unmade, List.take_succ_cons, List.take_zero, List.map_cons, List.map_nil]
      go_big_quiet_step (fail)
      go_big_quiet_step ((go_at_call 62; exact quiet_clm hm2 HQ.out _))
      iterate 5 (go_big_quiet_step (fail))
      go_big_quiet_step ((go_at_call 61; exact quiet_clm hm2 HPd.out _))
      iterate 5 (go_big_quiet_step (fail))
      refine wpQuiet_nil ?_
      refine ⟨List.forall_mem_cons.2 ⟨by kernel_rfl, List.forall_mem_nil _⟩, ?_⟩
      intro γ w9 hb9 hF
      clear hBW this hm1 hm2 fq1
      clear BW mm
      simp only [madesFrom, Facts, patch, List.take_succ_cons, List.take_zero, List.drop_succ_cons, List.drop_zero, Nat.zero_add, Nat.reduceAdd, List.mem_cons, List.not_mem_nil, or_false, forall_eq, forall_eq_or_imp, false_imp_iff, implies_true, and_true] at hF ⊢
      obtain ⟨hp, hl, hk⟩ := hF
      obtain ⟨B9, hG⟩ : ∃ B, γ 11 = B := ⟨_, rfl⟩
      rw [hG] at hp hl hk ⊢
      clear hG γ c3
      have H9 := Lib.hid (show BC w9 B9 [.bool false, .string (mg p)] from BC.of hk)
      have H7a := Lib.hid (H7.out.below hb9)
      have H5a := Lib.hid (H5.out.below hb9)
      have HLa := Lib.hid (HL.out.trans (hb9.mono (by have := HL.out.size; have := HBE.out; omega)))
      clear hb9 hp hl hk H7 H5 HL HBW
      go_upto_region 7 with fail
      go_upto_region 7 with fail
      have x0 := H7a.out.at 0 _ rfl
      have x1 := H7a.out.at 1 _ rfl
      have x2 := H9.out.at 0 _ rfl
      have x3 := H9.out.at 1 _ rfl
      go_wp2_with fail
      refine (HAD.out _).mono ?_
      rintro e w4 ⟨rfl, hb4⟩
      have H7b := Lib.hid (H7a.out.below hb4)
      have HLb := Lib.hid (HLa.out.trans (hb4.mono (by have := HLa.out.size; have := HBE.out; omega)))
      have H5b := Lib.hid (H5a.out.below hb4)
      clear hb4 x0 x1 x2 x3 H7a HLa H5a H9
      have y0 := H7b.out.at 0 _ rfl
      have y1 := H7b.out.at 1 _ rfl
      have y2 := H7b.out.z 0 (by simp)
      have y3 := H7b.out.z 1 (by simp)
      go_wp2_with fail
      go_roundg (n - i)
      case rel =>
        refine ⟨i + 1, by go_num, by omega, by omega, ?_, ?_, ?_⟩
        · exact H5b.out.other2 0 1 _ _ (by have := HO.out; omega)
        · rw [HSX.out]
          exact H7b.out.set2 0 1 (.bool false) (.string (mg (S + p))) (by simp) (by simp)
        · have := HO.out
          exact (HLb.out.setCell (p := ⟨B7, 0, none⟩) (by simp; omega) _).setCell (p := ⟨B7, 1, none⟩) (by simp; omega) _
      case measure => have := HG.out; omega
    · obtain rfl : i = n := by omega
      have hB : decide ((i : Int) < i) = false := by simp
      have hT : ((k64 ds).take i).sum = (k64 ds).sum := by rw [List.take_of_length_le (by unfold k64; rw [List.length_map]; exact Nat.le_of_eq HN.out)]
      rw [hT] at H7
      have HC := Lib.hid (fun W => rCmpN (x := (k64 ds).sum) (d := P) 75 65 HPL.out HPV.out (by omega) (by omega) W)
      obtain ⟨S, hS⟩ : ∃ S, (k64 ds).sum = S := ⟨_, rfl⟩
      rw [hS] at HC H7 HFIN
      obtain ⟨r, hr⟩ : ∃ r, cmpI (S : Int) (P : Int) = r := ⟨_, rfl⟩
      rw [hr] at HC HFIN
      have hfin := HFIN.out
      have x0 := H7.out.at 0 _ rfl
      have x1 := H7.out.at 1 _ rfl
      have x2 := H5.out.at 0 _ rfl
      have x3 := H5.out.at 1 _ rfl
      clear hT hS hr
      go_wp2_with fail
      refine (HC.out _).mono ?_
      rintro e w4 ⟨rfl, hb4⟩
      have HZ := Lib.hid (bstep HBW.out hb4)
      clear hb4 x0 x1 x2 x3
      go_wp2
      go_ret
      exact ⟨rfl, HZ.out⟩
set_option maxRecDepth 100000 in
set_option maxHeartbeats 1600000 in
theorem rchkE39_any (cap : Nat) (a : Option Addr) (L : List (Bool × ByteArray)) (m : Int) (hc : L.length ≤ cap) (hcm : cap ≤ maxLen) (h12 : L.length ≤ 12 ∨ 64 < L.length) (hz : ∀ x ∈ L, x.2.size ≤ 8) (hm : (Lit.int .i64 m).wf = true) (h0 : limE L m ≠ 0) (v x : Value) (w : World) (hSl : Sl w a L) :
    Calls Tryz.prog 14 #[.slice a L.length cap, .int .i64 m, v, x] w fun e w' => e = .returned (.int .i64 (limE L m)) ∧ Below w.heap.size w w' := by
  have HT := Lib.hid (rTable39_any cap a L m hc hcm h12 hz hm w hSl)
  unfold LTb at HT
  obtain ⟨E, hE⟩ : ∃ E, limE L m = E := ⟨_, rfl⟩
  rw [hE] at HT h0 ⊢
  have hne : (E != 0) = true := by simpa using h0
  clear h0 hE hSl hz
  go_enter Tryz.func14, Tryz.ntmps14
  go_wp2_with fail
  refine HT.out.mono ?_
  rintro e w1 ⟨v', rfl, -, hb⟩
  go_wp2
  go_ret
  exact ⟨rfl, hb⟩
/-- The cost of good lengths. -/
theorem rcostT_any {A : Addr} {c n c2 : Nat} {m : Nat} {Ws : List Nat} {a2 : Option Addr} {xs : List Int} (hn : Ws.length = n) (h2 : 2 ≤ n) (h12 : n ≤ 12) (hz : ∀ x ∈ VL Ws, x.2.size ≤ 8) (hm : m ≤ 64) (hx : xs.length = n) (hall : xs.any (badM m) = false) (W : World) (hS : Sl W (some A) (VL Ws)) (hr : NSx W a2 xs) :
    Calls Tryz.prog 34 #[.slice (some A) n c, .slice a2 n c2] W fun e w' => e = .returned (.tuple #[.agg #[.bool false, .string (mg (csP (Ws.zip (xs.map (dcl m)))))], .int .i64 0]) ∧ Below W.heap.size W w' := by
  have h := rCost38O_any c (some A) (VL Ws) (.slice a2 xs.length c2) xs (by rw [VL_len, hn]; unfold maxLen; omega) (by unfold maxLen; omega) (fun x hx => Nat.le_trans (hz x hx) (by decide)) W hS (hr.rowO c2)
  have h0 : costE (VL Ws) xs = 0 := by
    unfold costE
    rw [if_neg (by rw [chkW_VL (by omega) (by omega)]; simp), if_neg (by rw [VL_len]; omega), if_neg]
    simp only [Bool.not_eq_true, List.any_eq_false]
    intro x hx
    rw [List.any_eq_false] at hall
    have := hall x hx
    unfold badM at this
    simp only [Bool.or_eq_true, decide_eq_true_eq, not_or] at this
    simp [badL]; omega
  rw [h0, VL_len, hn, hx] at h
  refine h.mono ?_
  rintro e w' ⟨⟨z, rfl, -, hz2⟩, hbw⟩
  obtain ⟨Vs, es, e3, e4, -, hzz⟩ := hz2 rfl
  obtain rfl := VL_inj e3
  have hds : xs.map (dcl m) = es := by
    have h1 := (dcl_all hall).1
    have e : ∀ l : List Nat, (l.map fun (k : Nat) => (k : Int)).map Int.toNat = l := fun l => by
      rw [List.map_map]
      exact (List.map_congr_left fun x _ => Int.toNat_natCast x).trans (List.map_id _)
    have h := congrArg (fun l : List Int => l.map Int.toNat) (h1.symm.trans e4)
    simp only [e] at h
    exact h
  rw [hds]
  exact ⟨by rw [hzz]; rfl, hbw⟩
set_option maxRecDepth 100000 in
set_option maxHeartbeats 4000000 in
theorem rchkT39_any (A : Addr) (c n m : Nat) (Ws : List Nat) (hn : Ws.length = n) (h2 : 2 ≤ n) (h12 : n ≤ 12) (hc : n ≤ c) (hcm : c ≤ maxLen) (hz : ∀ x ∈ VL Ws, x.2.size ≤ 8) (hm : 1 ≤ m) (hm32 : m ≤ 32) (h0 : limE (VL Ws) m = 0) (hf : n ≤ 2 ^ m) (N : List (List (Bool × ByteArray))) (v : Value) (hN : N.length ≤ 1000) (hNr : ∀ r ∈ N, r.length ≤ 1000) (a2 : Option Addr) (c2 : Nat) (xs : List Int) (hxl : xs.length ≤ 1000)
    (w : World) (hS : Sl w (some A) (VL Ws)) (hv : RwO w v N) (hr : NSx w a2 xs) :
    Calls Tryz.prog 14 #[.slice (some A) n c, .int .i64 m, v, .slice a2 xs.length c2] w fun e w' => e = .returned (.int .i64 (chkT Ws m N xs)) ∧ Below w.heap.size w w' := by
  have HTB := Lib.hid ((rTable39_any c (some A) (VL Ws) m (by rw [VL_len, hn]; exact hc) hcm (by rw [VL_len, hn]; omega) hz (wf_m (by omega)) w hS).mono (fun e w' h => LTb.ok h0 h))
  rw [VL_len, hn] at HTB
  have HEQ := Lib.hid (fun T W (h1 : RwS W (.slice (some ⟨T, 0, none⟩) (m + 1) (m + 1)) (tabX Ws m)) (hb : Below w.heap.size w W) => rsameT_any v _ N (tabX Ws m) hN hNr W (hv.below hb) h1.toO)
  have HFT := Lib.hid (fun W (hx : xs.length = n) (hall : xs.any (badM m) = false) (hb2 : Below w.heap.size w W) => rfits38_any (n := n) (ds := xs.map (dcl m)) a2 c2 (by rw [List.length_map, hx]) (by omega) (fun d hd => by have := (dcl_all hall).2 d hd; omega) W (by rw [← (dcl_all hall).1]; exact hr.below hb2))
  have HCS := Lib.hid (fun W (hx : xs.length = n) (hall : xs.any (badM m) = false) (hb2 : Below w.heap.size w W) => rcostT_any (A := A) (c := c) (c2 := c2) (m := m) hn h2 h12 hz (by omega) hx hall W (hS.below hb2) (hr.below hb2))
  have HCO := Lib.hid (tabX_cost (Ws := Ws) (m := m) (by omega) (by omega))
  have HR := Lib.hid hr
  have HCK := Lib.hid (show chkT Ws m N xs = if tabX Ws m ≠ N then 23 else if xs.length ≠ n then 23 else if xs.any (badM m) = true then 23 else if csP (Ws.zip (xs.map (dcl m))) ≠ limC Ws m then 23 else if krL 32 (xs.map (dcl m)) ≤ 2 ^ 32 then 0 else 23 from by unfold chkT; rw [hn])
  obtain ⟨R, hR⟩ : ∃ R, chkT Ws m N xs = R := ⟨_, rfl⟩
  rw [hR] at HCK ⊢
  have hmI : (m : Int) ≤ 32 := by omega
  have HWN := Lib.hid hn
  clear hn hz hS hv hr hf hc hcm hR h0 hN hNr
  obtain ⟨m1, hm1⟩ : ∃ x, m + 1 = x := ⟨_, rfl⟩
  rw [hm1] at HTB HEQ
  by_cases htab : tabX Ws m = N
  case neg =>
    rw [if_pos htab] at HCK
    obtain rfl := HCK.out
    rw [decide_eq_false (fun e => htab e.symm)] at HEQ
    clear htab
    go_enter Tryz.func14, Tryz.ntmps14
    go_wp2_with fail
    refine HTB.out.mono ?_
    rintro e w1 ⟨T, rfl, ht, hb1⟩
    have HB1 := Lib.hid hb1
    have HE1 := Lib.hid (HEQ.out T _ ht hb1)
    clear ht hb1
    go_wp2_with fail
    refine HE1.out.mono ?_
    rintro e w2 ⟨rfl, hb2⟩
    go_wp2
    go_ret
    exact ⟨rfl, bstep HB1.out hb2⟩
  case pos =>
    rw [if_neg (fun h => h htab)] at HCK
    rw [decide_eq_true htab.symm] at HEQ
    clear htab
    by_cases hxn : xs.length = n
    case neg =>
      rw [if_pos hxn] at HCK
      obtain rfl := HCK.out
      obtain ⟨q, hq⟩ : ∃ q, xs.length = q := ⟨_, rfl⟩
      rw [hq] at hxn hxl ⊢
      have hqB : ((q : Int) != (n : Int)) = true := by simp; omega
      have hqN : ¬ (q : Int) = (n : Int) := by omega
      clear hxn hq
      go_enter Tryz.func14, Tryz.ntmps14
      go_wp2_with fail
      refine HTB.out.mono ?_
      rintro e w1 ⟨T, rfl, ht, hb1⟩
      have HB1 := Lib.hid hb1
      have HE1 := Lib.hid (HEQ.out T _ ht hb1)
      clear ht hb1
      go_wp2_with fail
      refine HE1.out.mono ?_
      rintro e w2 ⟨rfl, hb2⟩
      go_wp2
      go_ret
      exact ⟨rfl, bstep HB1.out hb2⟩
    rw [if_neg (fun h => h hxn)] at HCK
    have HFT := Lib.hid (fun W => HFT.out W hxn)
    have HCS := Lib.hid (fun W => HCS.out W hxn)
    have HXN := Lib.hid hxn
    rw [hxn]
    have hnB : ((n : Int) != (n : Int)) = false := by simp
    obtain ⟨ds, hds⟩ : ∃ ds, xs.map (dcl m) = ds := ⟨_, rfl⟩
    rw [hds] at HFT HCS HCK
    obtain ⟨cs, hcs⟩ : ∃ x, csP (Ws.zip ds) = x := ⟨_, rfl⟩
    obtain ⟨kl, hkl⟩ : ∃ x, decide (krL 32 ds ≤ 2 ^ 32) = x := ⟨_, rfl⟩
    have HKL := Lib.hid hkl
    rw [hcs] at HCS HCK
    rw [hkl] at HFT
    clear hxn hds hxl hcs hkl
    go_enter Tryz.func14, Tryz.ntmps14
    go_wp2_with fail
    refine HTB.out.mono ?_
    rintro e w1 ⟨T, rfl, ht, hb1⟩
    have HB1 := Lib.hid hb1
    have HE1 := Lib.hid (HEQ.out T _ ht hb1)
    have HT1 := Lib.hid ht
    clear ht hb1 HTB HEQ
    go_wp2_with fail
    refine HE1.out.mono ?_
    rintro e w2 ⟨rfl, hb2⟩
    have HB2 := Lib.hid (bstep HB1.out hb2)
    have HT2 := Lib.hid (HT1.out.below hb2)
    clear hb2 HB1 HT1 HE1
    go_wp2_with fail
    go_loopg [11] (n + 1) (fun gg v11 wr => ∃ i : Nat, v11 = .int .i64 (i : Int) ∧ i ≤ n ∧ n - i < gg ∧ (xs.take i).any (badM m) = false ∧ wr = w2)
    case atStart => exact ⟨0, rfl, Nat.zero_le _, by omega, rfl, rfl⟩
    case round =>
      obtain ⟨i, rfl, hi, hig, hno, ew⟩ := hrel
      subst ew
      have HG := Lib.hid hig
      have HNO := Lib.hid hno
      clear hig hno
      by_cases hlt : i < n
      · have hltI : (i : Int) < n := by omega
        obtain ⟨xd, hxd⟩ : ∃ d, xs[i]? = some d := ⟨xs[i]'(by rw [HXN.out]; exact hlt), List.getElem?_eq_getElem _⟩
        obtain ⟨G, rfl, c3⟩ := (HR.out.below HB2.out) i xd hxd
        have HXD := Lib.hid hxd
        clear hxd
        by_cases hb1 : xd < 1
        · have HV := Lib.hid (show R = 23 from by
            have : xs.any (badM m) = true := List.any_eq_true.2 ⟨xd, List.mem_of_getElem? HXD.out, by unfold badM; simp [hb1]⟩
            rw [HCK.out, if_pos this])
          go_wp2
          go_ret
          exact ⟨by rw [HV.out]; rfl, HB2.out⟩
        have hb1B : decide (xd < 1) = false := by simpa using hb1
        by_cases hb2' : (m : Int) < xd
        · have HV := Lib.hid (show R = 23 from by
            have : xs.any (badM m) = true := List.any_eq_true.2 ⟨xd, List.mem_of_getElem? HXD.out, by unfold badM; simp [hb2']⟩
            rw [HCK.out, if_pos this])
          go_wp2
          go_ret
          exact ⟨by rw [HV.out]; rfl, HB2.out⟩
        have hb2B : decide ((m : Int) < xd) = false := by simpa using hb2'
        have HNO2 := Lib.hid (show (xs.take (i + 1)).any (badM m) = false from by
          rw [List.take_add_one, HXD.out, List.any_append, HNO.out]
          simp [badM, hb1B, hb2B])
        go_wp2
        go_roundg (n - i)
        case rel => exact ⟨i + 1, by go_num, by omega, by omega, HNO2.out, rfl⟩
        case measure => have := HG.out; omega
      · obtain rfl : n = i := by omega
        have hB : decide ((n : Int) < n) = false := by simp
        have hall : xs.any (badM m) = false := by
          have := HNO.out
          rwa [List.take_of_length_le (Nat.le_of_eq HXN.out)] at this
        rw [if_neg (by rw [hall]; simp)] at HCK
        have HCS1 := Lib.hid (fun W h => HCS.out W hall h)
        have HFT1 := Lib.hid (fun W h => HFT.out W hall h)
        clear hall HFT HCS
        go_wp2_with fail
        refine (HCS1.out _ HB2.out).mono ?_
        rintro e w4 ⟨rfl, hb4⟩
        have hal : Below w4.heap.size w4 (w4.alloc (.cells #[.bool false, .string (mg cs)] 29)) := (Below.refl _ _).alloc (Nat.le_refl _) _
        have HD4 := Lib.hid (bstep (bstep HB2.out hb4) hal)
        have HT4 := Lib.hid ((HT2.out.below hb4).below hal)
        have HP4 := Lib.hid (BC.new w4 w4.heap.size #[.bool false, .string (mg cs)] 29 rfl)
        clear hb4 hal
        go_upto_region 12 with fail
        obtain ⟨b12, hb12⟩ : ∃ b, w4.heap.size = b := ⟨_, rfl⟩
        rw [hb12] at HP4 ⊢
        obtain ⟨Y4, hY4⟩ : ∃ X, w4.alloc (.cells #[.bool false, .string (mg cs)] 29) = X := ⟨_, rfl⟩
        rw [hY4] at HD4 HT4 HP4 ⊢
        clear hY4 hb12
        obtain ⟨T', c', ee, -, -, hat⟩ := id HT4.out
        have eT : T' = ⟨T, 0, none⟩ := by injection ee with h1 h2 h3; exact (Option.some.inj h1).symm
        subst eT
        clear ee
        obtain ⟨Ai, ci, t0, -, -, t1⟩ := hat 0 _ (tabX_at (Nat.zero_le _))
        rw [Nat.sub_zero, rowX_len, HWN.out] at t0
        rw [Nat.sub_zero] at t1
        rw [addr0] at t0
        obtain ⟨A1, e1, t2, t3⟩ := t1 _ _ _ HCO.out
        cases e1
        obtain ⟨n1, hn1⟩ : ∃ x, n + 1 = x := ⟨_, rfl⟩
        obtain ⟨NN, hNN⟩ : ∃ x, n1 * n1 = x := ⟨_, rfl⟩
        have hlt1 : n1 < NN := by
          rw [← hNN]
          have : n1 * 2 ≤ n1 * n1 := Nat.mul_le_mul_left _ (by omega)
          omega
        rw [HWN.out, hn1] at t2 t3
        rw [hn1, hNN] at t0
        have t4 : Y4.cell? ⟨(Ai.add (n1 * 2)).block, (Ai.add (n1 * 2)).off + 1, none⟩ = some (.string (mg (limC Ws m))) := by rw [addr_next]; exact t3
        have hn1I : (n : Int) + 1 = (n1 : Int) := by omega
        have hlt1I : (n1 : Int) < (NN : Int) := by omega
        have hNN2 : NN ≤ 169 := by rw [← hNN]; exact Nat.mul_le_mul (show n1 ≤ 13 by omega) (show n1 ≤ 13 by omega)
        have hmg : eqI false (mg cs) false (mg (limC Ws m)) = decide (cs = limC Ws m) := by
          by_cases e : cs = limC Ws m
          · rw [e, decide_eq_true rfl]
            exact eqI_iff.2 ⟨rfl, rfl⟩
          · rw [decide_eq_false e]
            exact Bool.eq_false_iff.2 fun h => e (mg_inj9 (eqI_iff.1 h).2)
        obtain ⟨lc, hlc⟩ : ∃ x, limC Ws m = x := ⟨_, rfl⟩
        rw [hlc] at hmg HCK t4 t3
        have HFT2 := Lib.hid (fun W (h : Below Y4.heap.size Y4 W) => HFT1.out W (bstep HD4.out h))
        have HBF := Lib.hid (fun W (h : Below Y4.heap.size Y4 W) => bstep HD4.out h)
        have hm1p : 0 < m1 := by omega
        clear hlc hn1 hNN t1 hat t3
        haveI := cls_some Y4
        have f0 : ∀ u : Cl Y4, u.x.cell? ⟨b12, 0, none⟩ = some (.bool false) := fun u => (HP4.out.below u.h).at 0 _ rfl
        have f1 : ∀ u : Cl Y4, u.x.cell? ⟨b12, 1, none⟩ = some (.string (mg cs)) := fun u => (HP4.out.below u.h).at 1 _ rfl
        have f2 : ∀ u : Cl Y4, u.x.cell? ⟨T, 0, none⟩ = some (.slice (some Ai) NN ci) := fun u => cellBelow t0 u.h
        have f3 : ∀ u : Cl Y4, u.x.cell? (Ai.add (n1 * 2)) = some (.bool false) := fun u => cellBelow t2 u.h
        have f4 : ∀ u : Cl Y4, u.x.cell? ⟨(Ai.add (n1 * 2)).block, (Ai.add (n1 * 2)).off + 1, none⟩ = some (.string (mg lc)) := fun u => cellBelow t4 u.h
        clear t0 t2 t4
        cases kl with
        | false =>
          have HV := Lib.hid (show R = 23 from by
            rw [HCK.out, if_neg (of_decide_eq_false HKL.out)]
            split <;> rfl)
          refine wp_region_cls (by kernel_rfl) ?_
          go_big_quiet_step (fail)
          go_big_quiet_step ((go_at_call 35; exact quiet_cB (Below.refl _ _) HFT2.out _))
          iterate 13 (go_big_quiet_step (fail))
          refine wpQuiet_nil ?_
          intro w7 hw7
          obtain ⟨u7, rfl⟩ := hw7
          have HBG := Lib.hid (HBF.out _ u7.h)
          obtain ⟨X7, hX7⟩ : ∃ X, u7.x = X := ⟨_, rfl⟩
          rw [hX7] at HBG ⊢
          clear f0 f1 f2 f3 f4
          go_wp2
          go_ret
          exact ⟨by rw [HV.out]; rfl, HBG.out⟩
        | true =>
          by_cases hce : cs = lc
          · rw [decide_eq_true hce] at hmg
            have HV := Lib.hid (show R = 0 from by rw [HCK.out, if_neg (fun h => h hce), if_pos (of_decide_eq_true HKL.out)])
            clear hce
            refine wp_region_cls (by kernel_rfl) ?_
            go_big_quiet_step (fail)
            go_big_quiet_step ((go_at_call 35; exact quiet_cB (Below.refl _ _) HFT2.out _))
            iterate 13 (go_big_quiet_step (fail))
            refine wpQuiet_nil ?_
            intro w7 hw7
            obtain ⟨u7, rfl⟩ := hw7
            have HBG := Lib.hid (HBF.out _ u7.h)
            obtain ⟨X7, hX7⟩ : ∃ X, u7.x = X := ⟨_, rfl⟩
            rw [hX7] at HBG ⊢
            clear f0 f1 f2 f3 f4
            go_wp2
            go_ret
            exact ⟨by rw [HV.out]; rfl, HBG.out⟩
          · rw [decide_eq_false hce] at hmg
            have HV := Lib.hid (show R = 23 from by rw [HCK.out, if_pos hce])
            clear hce
            refine wp_region_cls (by kernel_rfl) ?_
            go_big_quiet_step (fail)
            go_big_quiet_step ((go_at_call 35; exact quiet_cB (Below.refl _ _) HFT2.out _))
            iterate 13 (go_big_quiet_step (fail))
            refine wpQuiet_nil ?_
            intro w7 hw7
            obtain ⟨u7, rfl⟩ := hw7
            have HBG := Lib.hid (HBF.out _ u7.h)
            obtain ⟨X7, hX7⟩ : ∃ X, u7.x = X := ⟨_, rfl⟩
            rw [hX7] at HBG ⊢
            clear f0 f1 f2 f3 f4
            go_wp2
            go_ret
            exact ⟨by rw [HV.out]; rfl, HBG.out⟩
end Go.Proofs.Gv
