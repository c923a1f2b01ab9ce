/- huffman.fits, huffman.Optimal. -/
import Derived.Test.YtpdanbnfommbhaaHfitP
import Derived.Test.YtpdanbnfommbhaaHchk
import Derived.Test.YtpdanbnfommbhaaIntNegP
set_option linter.unusedSimpArgs false
set_option linter.unusedVariables false
namespace Go.Proofs.Gv
open Go Go.RowKit Go.Maps

theorem cmp_le (x y : Nat) : decide (cmpI (x : Int) (y : Int) ≤ 0) = decide (x ≤ y) := by
  unfold cmpI
  by_cases h : x < y
  · rw [if_pos (show (x : Int) < y by omega)]; simp; omega
  · by_cases h2 : y < x
    · rw [if_neg (show ¬ (x : Int) < y by omega), if_pos (show (y : Int) < x by omega)]; simp; omega
    · rw [if_neg (show ¬ (x : Int) < y by omega), if_neg (show ¬ (y : Int) < x by omega)]; simp; omega
set_option maxRecDepth 100000 in
set_option maxHeartbeats 4000000 in
theorem fits_any (g c n : Nat) (ds : List Nat) (hn : ds.length = n) (hl : n ≤ 1000) (hd : ∀ d ∈ ds, 1 ≤ d ∧ d ≤ 64) (w : World) (hr : NR w g ds) :
    Calls Try.prog 56 #[.slice (some ⟨g, 0, none⟩) n c] w fun e w' => e = .returned (.bool (decide ((pws 2 ds).sum ≤ 2 ^ 64))) ∧ Below w.heap.size w w' := by
  subst hn
  have HR := Lib.hid hr
  have HD := Lib.hid hd
  have HPL := Lib.hid (pws_lt (q := 2) (by decide) ds hl)
  have HQ2 := Lib.hid (fun W => cOfN 2 (by decide) W)
  have HPW := Lib.hid (fun d W => cPowN 2 (64 - d) (by decide) (by omega) W)
  have HP64 := Lib.hid (fun W => cPowN 2 64 (by decide) (by decide) W)
  have HPX := Lib.hid (fun d => pw_lt (q := 2) (d := d) (by decide))
  obtain ⟨p64, hp64⟩ : ∃ p, (2 : Nat) ^ 64 = p := ⟨_, rfl⟩
  rw [hp64] at HP64 ⊢
  have HB64 := Lib.hid (show p64 < 2 ^ pwN from by rw [← hp64]; exact pw_lt (q := 2) (d := 0) (by decide))
  clear hr hd hp64
  go_enter Try.func56, Try.ntmps56
  go_wp2_with fail
  refine (HQ2.out _).mono ?_
  rintro e w1 ⟨rfl, hb1⟩
  go_wp2_with fail
  refine (HP64.out _).mono ?_
  rintro e w2 ⟨rfl, hb2⟩
  have hbA := bstep hb1 (bstep hb2 ((Below.refl _ w2).alloc (Nat.le_refl _) (.cells #[.bool false, .string (mg p64)] 33)))
  have hbB := bstep hbA ((Below.refl _ (w2.alloc (.cells #[.bool false, .string (mg p64)] 33))).alloc (Nat.le_refl _) (.cells #[.bool false, .string ⟨#[]⟩] 33))
  have HL1 := Lib.hid hbB
  have HB3 := Lib.hid ((BC.new w2 w2.heap.size #[.bool false, .string (mg p64)] 33 rfl).alloc (.cells #[.bool false, .string ⟨#[]⟩] 33))
  have HB5 := Lib.hid (show BC ((w2.alloc (.cells #[.bool false, .string (mg p64)] 33)).alloc (.cells #[.bool false, .string ⟨#[]⟩] 33)) (w2.heap.size + 1) [.bool false, .string (mg 0)] from by rw [mg_zero]; exact BC.new (w2.alloc (.cells #[.bool false, .string (mg p64)] 33)) (w2.heap.size + 1) #[.bool false, .string ⟨#[]⟩] 33 (by simp))
  have HO := Lib.hid (show w.heap.size ≤ w2.heap.size from Nat.le_trans hb1.size hb2.size)
  obtain ⟨W1, hW1⟩ : ∃ W, (w2.alloc (.cells #[.bool false, .string (mg p64)] 33)).alloc (.cells #[.bool false, .string ⟨#[]⟩] 33) = W := ⟨_, rfl⟩
  obtain ⟨B3, hB3⟩ : ∃ B, w2.heap.size = B := ⟨_, rfl⟩
  rw [hW1] at HL1 HB3 HB5
  rw [hB3] at HB3 HB5 HO
  clear hb1 hb2 hbA hbB
  go_wp2_with fail
  clear hW1 hB3
  obtain ⟨B5, hB5⟩ : ∃ B, B3 + 1 = B := ⟨_, rfl⟩
  have HO5 := Lib.hid (show B3 < B5 from by omega)
  rw [hB5] at HB5 ⊢
  clear hB5
  replace HO := Lib.hid (show w.heap.size ≤ B3 ∧ B3 < B5 from ⟨HO.out, HO5.out⟩)
  go_loopg [17] (ds.length + 1) (fun gg x17 wr => ∃ i : Nat, x17 = .int .i64 (i : Int) ∧ i ≤ ds.length ∧ ds.length - i < gg ∧ Below w.heap.size w wr ∧ BC wr B3 [.bool false, .string (mg p64)] ∧ BC wr B5 [.bool false, .string (mg ((pws 2 ds).take i).sum)])
  case atStart => exact ⟨0, rfl, Nat.zero_le _, by omega, HL1.out, HB3.out, HB5.out⟩
  case round =>
    obtain ⟨i, rfl, hi, hig, hbl, h3, h5⟩ := hrel
    have HGG := Lib.hid hig
    have HLr := Lib.hid hbl
    have H3 := Lib.hid h3
    have H5 := Lib.hid h5
    clear hig hbl h3 h5 HL1 HB3 HB5
    by_cases hlt : i < ds.length
    · have hltI : (i : Int) < ds.length := by omega
      obtain ⟨d, hd⟩ : ∃ d, ds[i]? = some d := ⟨ds[i], List.getElem?_eq_getElem hlt⟩
      have hd1 := (HD.out d (List.mem_of_getElem? hd)).1
      have hd2 := (HD.out d (List.mem_of_getElem? hd)).2
      have c0 := (HR.out.below HLr.out).at_ i d hd
      have HSX := Lib.hid (show ((pws 2 ds).take (i + 1)).sum = ((pws 2 ds).take i).sum + 2 ^ (64 - d) from take_sum_succ (pws_at hd))
      have HST := Lib.hid (show ((pws 2 ds).take i).sum < 2 ^ (pwN + 10) from Nat.lt_of_le_of_lt (take_sum_le _ i) HPL.out)
      have HPd := Lib.hid (show ∀ W, Calls Try.prog 55 #[.agg #[.bool false, .string (mg 2)], .int .i64 (64 - (d : Int))] W fun e w' => e = .returned (.tuple #[.agg #[.bool false, .string (mg (2 ^ (64 - d)))], .int .i64 0]) ∧ Below W.heap.size W w' from fun W => by have := HPW.out d W; rwa [show ((64 - d : Nat) : Int) = 64 - (d : Int) by omega] at this)
      have HXd := Lib.hid (HPX.out d)
      clear hd
      obtain ⟨p, hp⟩ : ∃ p, 2 ^ (64 - d) = p := ⟨_, rfl⟩
      rw [hp] at HSX HPd HXd
      clear hp
      go_wp2_with fail
      refine (HQ2.out _).mono ?_
      rintro e w2 ⟨rfl, hb2⟩
      go_wp2_with fail
      refine (HPd.out _).mono ?_
      rintro e w3 ⟨rfl, hb3⟩
      have hbA := bstep hb2 (bstep hb3 ((Below.refl _ w3).alloc (Nat.le_refl _) (.cells #[.bool false, .string (mg p)] 33)))
      have H5a := Lib.hid (H5.out.below hbA)
      have H8 := Lib.hid (BC.new w3 w3.heap.size #[.bool false, .string (mg p)] 33 rfl)
      have HLa := Lib.hid (bstep HLr.out hbA)
      have H3a := Lib.hid (H3.out.below hbA)
      obtain ⟨W3, hW3⟩ : ∃ W, w3.alloc (.cells #[.bool false, .string (mg p)] 33) = W := ⟨_, rfl⟩
      obtain ⟨B8, hB8⟩ : ∃ B, w3.heap.size = B := ⟨_, rfl⟩
      rw [hW3] at H5a H8 HLa H3a
      rw [hB8] at H8
      clear hb2 hb3 hbA c0 H5 H3 HLr
      have x0 := H5a.out.at 0 _ rfl
      have x1 := H5a.out.at 1 _ rfl
      have x2 := H8.out.at 0 _ rfl
      have x3 := H8.out.at 1 _ rfl
      go_wp2_with fail
      clear hW3 hB8
      refine (cAddN (pwN + 10) pwN HST.out HXd.out pwN_le.2 pwN_le.1 _).mono ?_
      rintro e w4 ⟨rfl, hb4⟩
      have H5b := Lib.hid (H5a.out.below hb4)
      have HLb := Lib.hid (bstep HLa.out hb4)
      have H3b := Lib.hid (H3a.out.below hb4)
      clear hb4 x0 x1 x2 x3 H5a HLa H3a H8
      have y0 := H5b.out.at 0 _ rfl
      have y1 := H5b.out.at 1 _ rfl
      have y2 := H5b.out.z 0 (by simp)
      have y3 := H5b.out.z 1 (by simp)
      go_wp2_with fail
      go_roundg (ds.length - i)
      case rel =>
        refine ⟨i + 1, by go_num, by omega, by omega, ?_, ?_, ?_⟩
        · have := HO.out
          exact (HLb.out.setCell (p := ⟨B5, 0, none⟩) (by simp; omega) _).setCell (p := ⟨B5, 1, none⟩) (by simp; omega) _
        · exact H3b.out.other2 0 1 _ _ (by have := HO.out; omega)
        · rw [HSX.out]
          exact H5b.out.set2 0 1 (.bool false) (.string (mg (((pws 2 ds).take i).sum + p))) (by simp) (by simp)
      case measure => have := HGG.out; omega
    · obtain rfl : i = ds.length := by omega
      have hB : decide ((ds.length : Int) < ds.length) = false := by simp
      have hT : ((pws 2 ds).take ds.length).sum = (pws 2 ds).sum := by rw [List.take_of_length_le (by unfold pws; rw [List.length_map]; exact Nat.le_refl _)]
      rw [hT] at H5
      obtain ⟨S, hS⟩ : ∃ S, (pws 2 ds).sum = S := ⟨_, rfl⟩
      rw [hS] at H5 HPL
      have HSP := Lib.hid hS
      have hle := cmp_le S p64
      have HCM := Lib.hid (fun W => cCmpN (x := S) (d := p64) (pwN + 10) pwN HPL.out HB64.out pwN_le.2 pwN_le.1 W)
      obtain ⟨cm, hcm⟩ : ∃ cm, cmpI (S : Int) (p64 : Int) = cm := ⟨_, rfl⟩
      rw [hcm] at hle HCM
      have HLE := Lib.hid hle
      clear hT hS hle hcm
      have x0 := H5.out.at 0 _ rfl
      have x1 := H5.out.at 1 _ rfl
      have x2 := H3.out.at 0 _ rfl
      have x3 := H3.out.at 1 _ rfl
      go_wp2_with fail
      refine (HCM.out _).mono ?_
      rintro e w2 ⟨rfl, hb2⟩
      have HF := Lib.hid (bstep HLr.out hb2)
      clear hb2 x0 x1 x2 x3
      go_wp2
      go_ret
      rw [HSP.out, ← HLE.out]
      exact ⟨rfl, HF.out⟩
def natsOf (xs : List Int) : List Nat := xs.map Int.toNat
theorem natsOf_cast (ds : List Nat) : natsOf (ds.map fun (k : Nat) => (k : Int)) = ds := by
  unfold natsOf
  rw [List.map_map]
  exact (List.map_congr_left fun x _ => Int.toNat_natCast x).trans (List.map_id ds)
noncomputable def optV (L : List (Bool × ByteArray)) (xs : List Int) : Bool :=
  if costE L xs ≠ 0 then false else decide ((pws 2 (natsOf xs)).sum ≤ 2 ^ 64) && decide (csum (wtsOf L) (natsOf xs) = csum (wtsOf L) (lenH 2 (wtsOf L)))
theorem RowAt.nr {W : World} {v : Value} {ds : List Nat} (h : RowAt W v (natV ds)) (h0 : 0 < ds.length) : ∃ g c, v = .slice (some ⟨g, 0, none⟩) ds.length c ∧ NR W g ds := by
  obtain ⟨a, c, rfl, hat⟩ := h
  rw [natV_len]
  obtain ⟨g, rfl, hc⟩ := hat 0 _ (natV_at h0)
  refine ⟨g, c, rfl, World.block_lt_of_cell? _ _ hc, fun i d hi => ?_⟩
  obtain ⟨g', e, hc'⟩ := hat i (.int .i64 (d : Int)) (by unfold natV; rw [List.getElem?_map, hi]; rfl)
  cases e
  exact hc'
set_option maxRecDepth 100000 in
set_option maxHeartbeats 8000000 in
theorem Optimal_any (cap : Nat) (a : Option Addr) (L : List (Bool × ByteArray)) (v : Value) (xs : List Int) (hL : L.length ≤ maxLen) (hx : xs.length ≤ maxLen) (hz : ∀ x ∈ L, x.2.size ≤ 8) (w : World) (hSl : Sl w a L) (hv : RowAt w v (intsV xs)) :
    Calls Try.prog 27 #[.slice a L.length cap, v] w fun e w' => e = .returned (.tuple #[.bool (optV L xs), .int .i64 (costE L xs)]) ∧ Below w.heap.size w w' := by
  have HC := Lib.hid (Cost_any cap a L v xs hL hx (fun x hx => Nat.le_trans (hz x hx) (by decide)) w hSl hv)
  have HS := Lib.hid hSl
  have HZ := Lib.hid hz
  have HV := Lib.hid hv
  clear hL hx hSl hz hv
  by_cases h0 : ¬ costE L xs = 0
  · have HO := Lib.hid (show optV L xs = false by unfold optV; rw [if_pos h0])
    obtain ⟨E, hE⟩ : ∃ E, costE L xs = E := ⟨_, rfl⟩
    rw [hE] at HC h0
    have HE := Lib.hid hE
    have hne : (E != 0) = true := by simpa using h0
    clear h0 hE
    go_enter Try.func27, Try.ntmps27
    go_wp2_with fail
    refine HC.out.mono ?_
    rintro e w1 ⟨⟨z, rfl, -, -⟩, hb⟩
    unfold VN
    have HB := Lib.hid (bstep hb ((Below.refl _ w1).alloc (Nat.le_refl _) (.cells #[.bool false, .string (mg z)] 33)))
    clear hb
    go_wp2
    go_ret2
    exact ⟨by rw [HO.out, HE.out]; rfl, HB.out⟩
  have h0 := Decidable.not_not.1 h0
  have hcw : chkW L = 0 := by
    cases hh : decide (chkW L = 0) with
    | true => simpa using hh
    | false => exfalso; unfold costE at h0; rw [if_pos (by simpa using hh)] at h0; simp at hh; exact hh h0
  obtain ⟨g2, g64, Ws, hWs⟩ := chkW_ok hcw
  obtain rfl : L = VL Ws := hWs
  rw [VL_len] at g2 g64
  obtain ⟨ds, hds, hdl, hd64⟩ : ∃ ds : List Nat, xs = ds.map (fun (k : Nat) => (k : Int)) ∧ ds.length = Ws.length ∧ ∀ d ∈ ds, 1 ≤ d ∧ d ≤ 64 := by
    have h1 := h0
    unfold costE at h1
    rw [if_neg (by rw [hcw]; simp)] at h1
    by_cases h2 : xs.length ≠ (VL Ws).length
    · rw [if_pos h2] at h1; cases h1
    · rw [if_neg h2] at h1
      by_cases h3 : xs.any badL = true
      · rw [if_pos h3] at h1; cases h1
      · obtain ⟨ds, e, hd⟩ := not_bad (by simpa using h3)
        refine ⟨ds, e, ?_, hd⟩
        have h2' := Decidable.not_not.1 h2
        rw [e, List.length_map, VL_len] at h2'
        exact h2'
  subst hds
  have hv' := HV.out
  rw [← natV_ints] at hv'
  obtain ⟨g, c, rfl, hnr⟩ := hv'.nr (by omega)
  have HN := Lib.hid hnr
  have HWZ := Lib.hid (VL_lt HZ.out)
  have HO := Lib.hid (show optV (VL Ws) (ds.map fun (k : Nat) => (k : Int)) = (decide ((pws 2 ds).sum ≤ 2 ^ 64) && decide (csum Ws ds = csum Ws (lenH 2 Ws))) by
    unfold optV; rw [if_neg (by rw [h0]; simp), natsOf_cast, wtsOf_VL])
  have HE := Lib.hid h0
  have HCO := Lib.hid (cost_own (k := 2) (by decide) (by decide) a cap Ws g2 g64 64 (by decide) HWZ.out (.slice (some ⟨g, 0, none⟩) ds.length c) w ds hdl hd64 HS.out (hnr.row rfl))
  have HLN := Lib.hid (fun W hS => len_own (k := 2) (by decide) (by decide) a cap Ws g2 g64 64 (by decide) HWZ.out W hS)
  have HFT := Lib.hid (fun W h => fits_any g c ds.length ds rfl (by omega) hd64 W h)
  have HCI := Lib.hid (fun v W hS hv => cost_any a cap 64 Ws (lenH 2 Ws) v (lenH_len _ _) (by omega) HWZ.out (fun d hd => Nat.lt_of_le_of_lt (lens_64 (by decide) g2 g64 d hd).2 (by decide)) (by decide) W hS hv)
  rw [show ((2 : Nat) : Int) = 2 from rfl] at HLN
  obtain ⟨c0, hc0⟩ : ∃ c, csum Ws ds = c := ⟨_, rfl⟩
  obtain ⟨c1, hc1⟩ : ∃ c, csum Ws (lenH 2 Ws) = c := ⟨_, rfl⟩
  rw [hc0, hc1] at HO
  rw [hc0] at HCO
  rw [hc1] at HCI
  rw [VL_len]
  have HIQ := Lib.hid (show eqI false (mg c0) false (mg c1) = decide (c0 = c1) from by
    by_cases h : c0 = c1
    · subst h; rw [eqI_iff.2 ⟨rfl, rfl⟩]; simp
    · have : eqI false (mg c0) false (mg c1) = false := by
        cases hh : eqI false (mg c0) false (mg c1) with
        | false => rfl
        | true =>
          have := (eqI_iff.1 hh).2
          have := congrArg (fun s => bv s.data.toList) this
          simp only [bv_mg] at this
          exact absurd this h
      rw [this]; simp [h])
  have HDL := Lib.hid hdl
  clear hc0 hc1 h0 hcw hd64 hv' hnr HC HV HZ hdl
  go_enter Try.func27, Try.ntmps27
  go_wp2_with fail
  refine HCO.out.mono ?_
  rintro e w1 ⟨rfl, hb1⟩
  have hbA := bstep hb1 ((Below.refl _ w1).alloc (Nat.le_refl _) (.cells #[.bool false, .string (mg c0)] 33))
  have HB1 := Lib.hid hbA
  have HP6 := Lib.hid (BC.new w1 w1.heap.size #[.bool false, .string (mg c0)] 33 rfl)
  obtain ⟨W1, hW1⟩ : ∃ W, w1.alloc (.cells #[.bool false, .string (mg c0)] 33) = W := ⟨_, rfl⟩
  obtain ⟨B6, hB6⟩ : ∃ B, w1.heap.size = B := ⟨_, rfl⟩
  rw [hW1] at HB1 HP6
  rw [hB6] at HP6
  clear hb1 hbA
  go_wp2_with fail
  clear hW1 hB6
  refine (HLN.out _ (HS.out.below HB1.out)).mono ?_
  rintro e w2 ⟨g8, b8, rfl, p1, hb2⟩
  have HG8 := Lib.hid p1
  have HB2 := Lib.hid (bstep HB1.out hb2)
  have HP62 := Lib.hid (HP6.out.below hb2)
  clear p1 hb2 HB1 HP6
  go_wp2_with fail
  refine wp_region_mix [.q [0], .r 1, .q [2, 3, 4, 5], .r 6, .q [7, 8, 9, 10]] [] (by kernel_rfl) (by kernel_rfl) (by intro d v c a w h; cases d <;> exact h) ?_
  intro X0 hb hz
  have HG8a := Lib.hid (HG8.out.below hb)
  have HB3 := Lib.hid (bstep HB2.out hb)
  have HP63 := Lib.hid (HP62.out.below hb)
  clear hb hz HG8 HB2 HP62
  refine wpMix_q ?_
  simp only [pickO, List.map_cons, List.map_nil, List.getElem?_toArray, List.getElem?_cons_succ, List.getElem?_cons_zero, Option.getD_some]
  haveI := cv_some X0
  iterate 1 (go_big_quiet_step (fail))
  refine wpQuiet_nil ?_
  clear this
  refine wpMix_r ?_
  simp only [pickO, List.map_cons, List.map_nil, List.getElem?_toArray, List.getElem?_cons_succ, List.getElem?_cons_zero, Option.getD_some]
  go_wp2_with fail
  refine (HFT.out _ (HN.out.below HB3.out)).mono ?_
  rintro e w4 ⟨rfl, hb4⟩
  obtain ⟨fb, hfb⟩ : ∃ b, decide ((pws 2 ds).sum ≤ 2 ^ 64) = b := ⟨_, rfl⟩
  rw [hfb] at HO ⊢
  clear hfb
  have HG8b := Lib.hid (HG8a.out.below hb4)
  have HB4 := Lib.hid (bstep HB3.out hb4)
  have HP64 := Lib.hid (HP63.out.below hb4)
  cases fb with
  | false =>
    go_wp2_with fail
    refine mixQ_ok hb4 ?_
    clear hb4 HG8a HB3 HP63
    refine wpMix_q ?_
    simp only [pickO, List.map_cons, List.map_nil, List.getElem?_toArray, List.getElem?_cons_succ, List.getElem?_cons_zero, Option.getD_some]
    haveI := cv_some w4
    iterate 4 (go_big_quiet_step (fail))
    refine wpQuiet_nil ?_
    clear this
    refine wpMix_r ?_
    simp only [pickO, List.map_cons, List.map_nil, List.getElem?_toArray, List.getElem?_cons_succ, List.getElem?_cons_zero, Option.getD_some]
    go_wp2_with fail
    refine mixQ_ok (Below.refl _ _) ?_
    refine wpMix_q ?_
    simp only [pickO, List.map_cons, List.map_nil, List.getElem?_toArray, List.getElem?_cons_succ, List.getElem?_cons_zero, Option.getD_some]
    haveI := cv_some w4
    iterate 4 (go_big_quiet_step (fail))
    refine wpQuiet_nil ?_
    clear this
    refine wpMix_nil ?_
    simp only [pickO, List.map_cons, List.map_nil, List.getElem?_toArray, List.getElem?_cons_succ, List.getElem?_cons_zero, Option.getD_some]
    go_wp2
    go_ret2
    exact ⟨by rw [HO.out, HE.out, Bool.false_and]; rfl, HB4.out⟩
  | true =>
    go_wp2_with fail
    refine mixQ_ok hb4 ?_
    clear hb4 HG8a HB3 HP63
    refine wpMix_q ?_
    simp only [pickO, List.map_cons, List.map_nil, List.getElem?_toArray, List.getElem?_cons_succ, List.getElem?_cons_zero, Option.getD_some]
    haveI := cv_some w4
    have x0 : ∀ u : Cv w4, u.x.cell? ⟨B6, 0, none⟩ = some (.bool false) := fun u => (HP64.out.below u.h).at 0 _ rfl
    have x1 : ∀ u : Cv w4, u.x.cell? ⟨B6, 1, none⟩ = some (.string (mg c0)) := fun u => (HP64.out.below u.h).at 1 _ rfl
    iterate 4 (go_big_quiet_step (fail))
    refine wpQuiet_nil ?_
    clear this x0 x1
    refine wpMix_r ?_
    simp only [pickO, List.map_cons, List.map_nil, List.getElem?_toArray, List.getElem?_cons_succ, List.getElem?_cons_zero, Option.getD_some]
    go_wp2_with fail
    refine (HCI.out _ _ (HS.out.below HB4.out) (HG8b.out.row (lenH_len _ _).symm)).mono ?_
    rintro e w5 ⟨rfl, hb5⟩
    have HB5 := Lib.hid (bstep HB4.out hb5)
    unfold VN
    go_wp2_with fail
    refine mixQ_ok hb5 ?_
    clear hb5
    refine wpMix_q ?_
    simp only [pickO, List.map_cons, List.map_nil, List.getElem?_toArray, List.getElem?_cons_succ, List.getElem?_cons_zero, Option.getD_some]
    haveI := cv_some w5
    have hiq := HIQ.out
    obtain ⟨eq2, heq2⟩ : ∃ b, decide (c0 = c1) = b := ⟨_, rfl⟩
    rw [heq2] at hiq HO
    clear heq2
    iterate 4 (go_big_quiet_step (fail))
    refine wpQuiet_nil ?_
    clear this hiq
    refine wpMix_nil ?_
    simp only [pickO, List.map_cons, List.map_nil, List.getElem?_toArray, List.getElem?_cons_succ, List.getElem?_cons_zero, Option.getD_some]
    go_wp2
    go_ret2
    exact ⟨by rw [HO.out, HE.out, Bool.true_and]; rfl, HB5.out⟩
end Go.Proofs.Gv
