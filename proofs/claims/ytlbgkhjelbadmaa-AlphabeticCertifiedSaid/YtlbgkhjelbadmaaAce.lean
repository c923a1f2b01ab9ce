/- The law AlphabeticCertified. -/
import Derived.Test.YtlbgkhjelbadmaaAcp
set_option linter.unusedSimpArgs false
set_option linter.unusedVariables false
namespace Go.Proofs.Gv
open Go Go.RowKit Go.Maps

theorem ne_changed (v : Nat) (z : Int) (h : z ≠ (v : Int)) : ((false, mg v) : Bool × ByteArray) ≠ (sgn z, mg z.natAbs) := fun e => by
  apply h
  have e1 := congrArg Prod.fst e
  have e2 := congrArg Prod.snd e
  simp only at e1 e2
  have : eqI (sgn z) (mg z.natAbs) (sgn (v : Int)) (mg (v : Int).natAbs) = true := eqI_iff.2 ⟨by rw [← e1]; exact (decide_eq_false (by omega)).symm, by rw [← e2, Int.natAbs_natCast]⟩
  rw [eqI_V] at this
  exact of_decide_eq_true this
set_option maxRecDepth 100000 in
set_option maxHeartbeats 8000000 in
theorem law_cert (w : World) (a : Option Addr) (cap : Nat) (L : List (Bool × ByteArray)) (hL : L.length ≤ maxLen) (hz : ∀ x ∈ L, x.2.size ≤ maxLen) (hS : Sl w a L) (ha : a = none → L = [] ∧ cap = 0) (hc : L.length ≤ cap ∧ cap ≤ maxLen)
    (i : Int) (wi : (Lit.int .u8 i).wf = true) (k : Int) (wk : (Lit.int .u8 k).wf = true) (y : Int) (wy : (Lit.int .i32 y).wf = true) (t : Int) (wt : (Lit.int .u8 t).wf = true) :
    Calls Try.prog 5 #[.slice a L.length cap, .int .u8 i, .int .u8 k, .int .i32 y, .int .u8 t] w fun e w' => e = .returned (.bool true) ∧ Below w.heap.size w w' := by
  have hi8 := bounds_u8 wi
  have hk8 := bounds_u8 wk
  have ht8 := bounds_u8 wt
  have hy32 := bounds_i32 wy
  obtain ⟨I, rfl⟩ : ∃ I : Nat, i = I := ⟨i.toNat, by omega⟩
  obtain ⟨K, rfl⟩ : ∃ K : Nat, k = K := ⟨k.toNat, by omega⟩
  obtain ⟨T, rfl⟩ : ∃ T : Nat, t = T := ⟨t.toNat, by omega⟩
  have HV := Lib.hid (valid_any a cap L hL hz w hS)
  have HAW := Lib.hid (fun W => awake40_any W)
  clear wi wk wt wy
  by_cases hv : vldA L = true
  case neg =>
    have hv' : vldA L = false := by simpa using hv
    rw [hv'] at HV
    clear hv hv' hS ha hz hL hc
    go_enter Try.func5, Try.ntmps5
    go_wp2_with fail
    refine HV.out.mono ?_
    rintro e w1 ⟨rfl, hb1⟩
    go_wp2_with fail
    refine (HAW.out _).mono ?_
    rintro e w2 ⟨rfl, hb2⟩
    go_wp2
    go_ret
    exact ⟨rfl, bstep hb1 hb2⟩
  case pos =>
    rw [hv] at HV
    obtain ⟨Ws, rfl, h2, h6, hck, hz8⟩ := vld_ok hv
    have hzz := VLlt hz8
    obtain ⟨A, rfl⟩ := hS.some (by rw [VL_len]; omega)
    rw [VL_len] at hc HV ⊢
    obtain ⟨hfb, hcb, hdl, hd64⟩ := fit_best h2 (by omega)
    have HS := Lib.hid hS
    have HZZ := Lib.hid hzz
    have H26 := Lib.hid (And.intro h2 h6)
    have HC := Lib.hid hc
    have HTB := Lib.hid (fun W (h : Below w.heap.size w W) => tab_ok (some A) cap Ws h2 (by omega) hc.1 hc.2 hz8 W (hS.below h))
    have HLN := Lib.hid (fun W (h : Below w.heap.size w W) => len_ok (some A) cap Ws h2 (by omega) hc.1 hc.2 hz8 W (hS.below h))
    have HKC := Lib.hid (fun (M : List (List (Bool × ByteArray))) (hM : M.length ≤ 1000) (hr : ∀ r ∈ M, r.length ≤ 1000) (ds : List Nat) (hdb : ∀ d ∈ ds, d < 2 ^ 62) (Tv lv : Value) W (h : Below w.heap.size w W) (hT : RwS W Tv M) (hl : NR2 W lv ds) => check_ok A cap Ws h2 (by omega) hc.1 hc.2 hzz M hM hr ds hdb Tv lv W (hS.below h) hT hl)
    have HR1 := Lib.hid (show ∀ r ∈ tabM Ws, r.length ≤ 1000 from fun r hr => by
      obtain ⟨j, hj⟩ := List.getElem?_of_mem hr
      have hjl := (List.getElem?_eq_some_iff.1 hj).1
      rw [tabM_len] at hjl
      rw [tabM_at hjl] at hj
      cases hj
      rw [VL_len, tabR_len]; omega)
    obtain ⟨l, hl⟩ : ∃ l, alD Ws.length Ws = l := ⟨_, rfl⟩
    have HLE := Lib.hid hl
    rw [hl] at HLN hdl hd64
    have HD6 := Lib.hid hd64
    have HDL := Lib.hid hdl
    obtain ⟨n, hn⟩ : ∃ n, Ws.length = n := ⟨_, rfl⟩
    have HNN := Lib.hid hn
    -- the indices
    obtain ⟨m, hm⟩ : ∃ m, I % n = m := ⟨_, rfl⟩
    have hmn : m < n := by rw [← hm]; exact Nat.mod_lt _ (by omega)
    have hmI : (I : Int).tmod (n : Int) = (m : Int) := by rw [Int.tmod_eq_emod_of_nonneg (by omega), ← Int.natCast_emod, hm]
    obtain ⟨r, hr⟩ : ∃ r, n - m = r := ⟨_, rfl⟩
    have hrI : (n : Int) - (m : Int) = (r : Int) := by omega
    obtain ⟨p, hp⟩ : ∃ p, K % r = p := ⟨_, rfl⟩
    have hpr : p < r := by rw [← hp]; exact Nat.mod_lt _ (by omega)
    have hpI : (K : Int).tmod (r : Int) = (p : Int) := by rw [Int.tmod_eq_emod_of_nonneg (by omega), ← Int.natCast_emod, hp]
    obtain ⟨j, hj⟩ : ∃ j, T % n = j := ⟨_, rfl⟩
    have hjn : j < n := by rw [← hj]; exact Nat.mod_lt _ (by omega)
    have hjI : (T : Int).tmod (n : Int) = (j : Int) := by rw [Int.tmod_eq_emod_of_nonneg (by omega), ← Int.natCast_emod, hj]
    obtain ⟨row, hrow⟩ : ∃ row, VL (tabR Ws m) = row := ⟨_, rfl⟩
    have HROW := Lib.hid (show (tabM Ws)[m]? = some row from by rw [← hrow]; exact tabM_at (by omega))
    have HRL := Lib.hid (show row.length = r from by rw [← hrow, VL_len, tabR_len, hn, hr])
    obtain ⟨v, hvv⟩ : ∃ v, alc (seg Ws m p) = v := ⟨_, rfl⟩
    have HX := Lib.hid (show row[p]? = some (false, mg v) from by
      rw [← hrow]
      refine VL_at ?_
      unfold tabR
      rw [List.getElem?_map, List.getElem?_range (by omega)]
      show some (alc (seg Ws m p)) = some v
      rw [hvv])
    have hv136 : v < 2 ^ 136 := by
      rw [← hvv]
      by_cases h1 : (seg Ws m p).length ≤ 1
      · rw [alc_one h1]; exact Nat.pow_pos (by decide)
      · refine alc_lt (by omega) ?_ (fun z hz' => hzz z ?_)
        · unfold seg; rw [List.length_take, List.length_drop]; omega
        · unfold seg at hz'; exact List.mem_of_mem_drop (List.mem_of_mem_take hz')
    obtain ⟨z, hzv⟩ : ∃ z : Int, (v : Int) + y = z := ⟨_, rfl⟩
    have HOF := Lib.hid (fun X => cOf y (by omega) (by omega) X)
    have HAD := Lib.hid (fun X => cAdd (VN_rp (N := 136) hv136 (by omega)) (Rp.V (z := y) 40 (by omega) (by omega)) X)
    rw [hzv] at HAD
    have HCH := Lib.hid (show y ≠ 0 → chkB Ws ((tabM Ws).set m (row.set p (sgn z, mg z.natAbs))) l = 23 from fun h => by
      rw [← hl]
      exact chk_changed h2 (by omega) HROW.out HX.out (ne_changed v z (by omega)))
    obtain ⟨x, hx⟩ : ∃ x, Ws[j]? = some x := ⟨Ws[j]'(by omega), List.getElem?_eq_getElem _⟩
    obtain ⟨d, hd⟩ : ∃ d, l[j]? = some d := ⟨l[j]'(by omega), List.getElem?_eq_getElem _⟩
    have hd6 := hd64 d (List.mem_of_getElem? hd)
    have HLO := Lib.hid (show x ≠ 0 → chkB Ws (tabM Ws) (l.set j (d + 1)) = 23 from fun h => by
      rw [← hl]
      exact chk_longer h2 (by omega) hx (by rw [hl]; exact hd) h)
    have HLS := Lib.hid (show chkB Ws ((tabM Ws).drop 1) l = 11 from chk_less h2 l)
    have HSM := Lib.hid (show chkB Ws (tabM Ws) l = 0 from by rw [← hl]; exact chk_same h2 (by omega))
    have HXD := Lib.hid (And.intro hx hd)
    rw [hn] at HTB HLN HKC HV h2 h6 hdl
    have hnn : ((n : Int) != (n : Int)) = false := by simp
    have h00 : ((0 : Int) != 0) = false := rfl
    have hn0 : ¬ (n : Int) = 0 := by omega
    have hnb : ((n : Int) == 0) = false := by simp; omega
    have hr0 : ¬ (r : Int) = 0 := by omega
    have hrb : ((r : Int) == 0) = false := by simp; omega
    have hrr : ((r : Int) != (r : Int)) = false := by simp
    have hmnI : (m : Int) < n := by omega
    have hprI : (p : Int) < r := by omega
    have hjnI : (j : Int) < n := by omega
    have hrle : r ≤ 6 := by omega
    rw [hn]
    clear hm hp hj hrow hvv hzv hx hd hl hn hr hfb hcb hd64 hzz hck hz8 hS ha hz hL hc hv hdl hv136
    go_enter Try.func5, Try.ntmps5
    go_wp2_with fail
    refine HV.out.mono ?_
    rintro e w1 ⟨rfl, hb1⟩
    have HB1 := Lib.hid hb1
    clear hb1 HV
    go_wp2_with fail
    refine (HTB.out w1 HB1.out).mono ?_
    rintro e w2 ⟨Tv, rfl, ht2, hb2⟩
    have HT2 := Lib.hid ht2
    have HB2 := Lib.hid (bstep HB1.out hb2)
    clear ht2 hb2 HB1 HTB
    go_wp2_with fail
    refine (HLN.out w2 HB2.out).mono ?_
    rintro e w3 ⟨lv, rfl, hn3, hb3⟩
    have HN3 := Lib.hid hn3
    have HT3 := Lib.hid (HT2.out.below hb3)
    have HB3 := Lib.hid (bstep HB2.out hb3)
    have HK := Lib.hid (HKC.out (tabM Ws) (by rw [tabM_len, HNN.out]; omega) HR1.out l (fun d hd => Nat.lt_of_le_of_lt (HD6.out d hd) (by decide)) Tv lv w3 HB3.out HT3.out hn3)
    rw [HSM.out] at HK
    clear hn3 hb3 HB2 HT2 HLN
    obtain ⟨gl, cl, rfl, hcl1, hcl2, hlc⟩ := id HN3.out
    obtain ⟨G, cG, rfl, hcG1, hcG2, hgc⟩ := id HT3.out
    have HLC := Lib.hid hlc
    have HGC := Lib.hid hgc
    have HCG := Lib.hid (And.intro hcG1 hcG2)
    rw [HDL.out, HNN.out] at HN3 HK ⊢
    rw [tabM_len, HNN.out] at HT3 HK ⊢
    rw [tabM_len, HNN.out] at hcG1
    clear hlc hgc hcl1 hcl2
    go_wp2_with fail
    refine HK.out.mono ?_
    rintro e Y ⟨rfl, hb4⟩
    have HY := Lib.hid (bstep HB3.out hb4)
    have HTY := Lib.hid (HT3.out.below hb4)
    have HNY := Lib.hid (HN3.out.below hb4)
    obtain ⟨Am, cm, f1, f2, f3, f4⟩ := HGC.out m row HROW.out
    have g1 := (hb4.cell (World.block_lt_of_cell? _ _ f1)).trans f1
    rw [HRL.out] at g1 f2
    have HF4 := Lib.hid (f4.below hb4)
    have HF23 := Lib.hid (And.intro f2 f3)
    have HGY := Lib.hid (show ∀ i, i < (tabM Ws).length → ∃ Ai len ci, Y.cell? (G.add i) = some (.slice (some Ai) len ci) from fun i hi => by
      obtain ⟨Ai, ci, q1, -⟩ := HGC.out i (tabM Ws)[i] (List.getElem?_eq_getElem hi)
      exact ⟨Ai, _, ci, (hb4.cell (World.block_lt_of_cell? _ _ q1)).trans q1⟩)
    have HLY := Lib.hid (show ∀ (i d : Nat), l[i]? = some d → Y.cell? ⟨gl, i, none⟩ = some (.int .i64 (d : Int)) from fun i d hi => (hb4.cell (World.block_lt_of_cell? _ _ (HLC.out i d hi))).trans (HLC.out i d hi))
    have HCR := Lib.hid (cloneR_any G cG (tabM Ws) (by rw [tabM_len, HNN.out]; omega) (by rw [tabM_len, HNN.out]; omega) Y HGY.out)
    rw [tabM_len, HNN.out] at HCR
    clear f1 f2 f3 f4 hb4 HK HN3 HT3 HB3 HGC HLC HSM
    go_wp2_with fail
    refine HCR.out.mono ?_
    rintro e w5 ⟨p5, c5, rfl, hc51, hc52, h5y, ho5, hb5⟩
    have HO5 := Lib.hid ho5
    have HB5 := Lib.hid hb5
    have HC5 := Lib.hid (And.intro hc51 hc52)
    have H5Y := Lib.hid h5y
    have g5 := (hb5.cell (World.block_lt_of_cell? _ _ g1)).trans g1
    have HCI := Lib.hid (cloneI_any Am cm row (by rw [HRL.out]; omega) (by rw [HRL.out]; omega) w5 (HF4.out.below hb5))
    rw [HRL.out] at HCI
    have H5L := Lib.hid (show p5 < w5.heap.size from World.block_lt_of_cell? _ ⟨p5, m, none⟩ (ho5.at (v := .slice (some Am) r cm) (rvs_at hmn g1)))
    have c5m := ho5.at (v := .slice (some Am) r cm) (rvs_at hmn g1)
    have z5m := ho5.z (i := m) (by rw [rvs_len]; exact hmn)
    clear hc51 hc52 h5y ho5 hb5 HCR
    go_wp2_with fail
    refine HCI.out.mono ?_
    rintro e w6 ⟨p6, c6, rfl, hc61, hc62, h65, ho6, hb6⟩
    have hne : p5 ≠ p6 := by have := H5L.out; omega
    have HNE := Lib.hid hne
    have HO6 := Lib.hid ho6
    have HC6 := Lib.hid (And.intro hc61 hc62)
    have HO56 := Lib.hid (HO5.out.below hb6)
    have HB6 := Lib.hid (bstep HB5.out hb6)
    have H65 := Lib.hid h65
    have x5m := (HO56.out).at (v := .slice (some Am) r cm) (rvs_at hmn g1)
    have z6m := HO56.out.z (i := m) (by rw [rvs_len]; exact hmn)
    clear hc61 hc62 h65 ho6 hb6 c5m z5m HCI HO5 g5 hne
    -- TAIL
    go_wp2_with fail
    obtain ⟨X, hX⟩ : ∃ X, w6.setCell ⟨p5, m, none⟩ (.slice (some ⟨p6, 0, none⟩) r c6) = X := ⟨_, rfl⟩
    have HO5X := Lib.hid (show OwnAt X p5 ((rvs Y G n).set m (.slice (some ⟨p6, 0, none⟩) r c6)) from by rw [← hX]; exact HO56.out.set _ (by rw [rvs_len]; exact hmn))
    have HO6X := Lib.hid (show OwnAt X p6 (inV row) from by rw [← hX]; exact HO6.out.other m _ (Ne.symm HNE.out))
    have HBX := Lib.hid (show Below Y.heap.size Y X from by rw [← hX]; exact HB6.out.setCell (p := ⟨p5, m, none⟩) H5Y.out _)
    rw [hX]
    have a0 := HO5X.out.at (i := m) (v := .slice (some ⟨p6, 0, none⟩) r c6) (by rw [List.getElem?_set, if_pos rfl, if_pos (by rw [rvs_len]; exact hmn)])
    have a1 := (HBX.out.cell (World.block_lt_of_cell? _ _ g1)).trans g1
    obtain ⟨A', eA, b0, b1⟩ := (HF4.out.below HBX.out) p false (mg v) HX.out
    cases eA
    clear hX x5m z6m g1 HO56 HO6 HB6
    refine wp_region_front 16 zvI (by kernel_rfl) shI (by kernel_rfl) (by kernel_rfl) (zvI_alloc _ (by kernel_rfl)) (shI_store _ (by kernel_rfl)) ?_
    intro mm BW hm1 hm2 hBW
    haveI := clm_some mm BW
    have fq0 := fun u : Clm mm BW => u.cellA hm1 hBW a0
    have fr0 := fun u : Clm mm BW => u.cellA hm1 hBW a1
    have fq1 := fun u : Clm mm BW => u.cellA hm1 hBW b0
    have fr1 := fun u : Clm mm BW => u.cellA hm1 hBW b1
    have fs1 : ∀ u : Clm mm BW, u.x.cell? ⟨(Am.add (p * 2)).block, (Am.add (p * 2)).off + 1, none⟩ = some (.string (mg v)) := fun u => by rw [addr_next]; exact fr1 u
    simp only [frontOf, unmade, List.take_succ_cons, List.take_zero, List.map_cons, List.map_nil]
    iterate 14 (go_big_quiet_step (fail))
    go_big_quiet_step ((go_at_call 26; exact quiet_clm hm2 HOF.out _))
    go_big_quiet_step ((go_at_call 25; exact quiet_clm hm2 HAD.out _))
    refine wpQuiet_nil ?_
    refine ⟨List.forall_mem_nil _, ?_⟩
    intro γ w7 hB7 hF
    clear hF hBW this hm1 hm2 fq0 fr0 fq1 fr1 fs1
    clear BW mm
    simp only [madesFrom, Facts, patch, List.take_succ_cons, List.take_zero, List.drop_succ_cons, List.drop_zero]
    clear γ
    have HP6 := Lib.hid (HO6X.out.below hB7)
    have HP5 := Lib.hid (HO5X.out.below hB7)
    have HB7 := Lib.hid (bstep HBX.out hB7)
    clear hB7 a0 a1 b0 b1 HO6X HO5X HBX HF4
    obtain ⟨i0, i1⟩ := inV_at row p false (mg v) HX.out
    have hpl : p * 2 + 1 < (inV row).length := by rw [inV_len, HRL.out]; omega
    have x0 := HP6.out.at i0
    have x1 := HP6.out.at i1
    have z0 := HP6.out.z (i := p * 2) (by omega)
    have z1 := HP6.out.z (i := p * 2 + 1) (by omega)
    obtain ⟨X7, hX7⟩ : ∃ X, (w7.setCell ⟨p6, p * 2, none⟩ (.bool (sgn z))).setCell ⟨p6, p * 2 + 1, none⟩ (.string (mg z.natAbs)) = X := ⟨_, rfl⟩
    have HQ6 := Lib.hid (show OwnAt X7 p6 (inV (row.set p (sgn z, mg z.natAbs))) from by
      rw [← hX7, ← inV_set _ _ _ _ (by rw [HRL.out]; exact hpr)]
      exact (HP6.out.set _ (by omega)).set _ (by rw [List.length_set]; omega))
    have HQ5 := Lib.hid (show OwnAt X7 p5 ((rvs Y G n).set m (.slice (some ⟨p6, 0, none⟩) r c6)) from by
      rw [← hX7]
      exact (HP5.out.other _ _ HNE.out).other _ _ HNE.out)
    have HY6 := Lib.hid (show Y.heap.size ≤ p6 from Nat.le_trans HB5.out.size H65.out)
    have HB7X := Lib.hid (show Below Y.heap.size Y X7 from by
      rw [← hX7]
      exact (HB7.out.setCell (p := ⟨p6, p * 2, none⟩) HY6.out _).setCell (p := ⟨p6, p * 2 + 1, none⟩) HY6.out _)
    have HNX := Lib.hid (HNY.out.below HB7X.out)
    have HTX := Lib.hid (HTY.out.below HB7X.out)
    clear i0 i1 HP6 HP5 HB7 H65 HB5
    by_cases hy0 : y = 0
    case pos =>
      have hyb : (y != 0) = false := by rw [hy0]; rfl
      clear hy0 HCH
      have HCN := Lib.hid (cloneN_any gl cl l (by rw [HDL.out, HNN.out]; omega) (by rw [HDL.out, HNN.out]; omega) X7 (fun i d hi => (HB7X.out.cell (World.block_lt_of_cell? _ _ (HLY.out i d hi))).trans (HLY.out i d hi)))
      rw [HDL.out, HNN.out] at HCN
      go_wp2_with fail
      refine HCN.out.mono ?_
      rintro e w8 ⟨p9, c9, rfl, hc91, hc92, h9, ho9, hb8⟩
      have HB8 := Lib.hid (bstep HB7X.out hb8)
      have HO9 := Lib.hid ho9
      have HC9 := Lib.hid (And.intro hc91 hc92)
      have HY9 := Lib.hid (show Y.heap.size ≤ p9 from Nat.le_trans HB7X.out.size h9)
      have hnl : j < (natV l).length := by rw [natV_len, HDL.out, HNN.out]; exact hjn
      have x9 := ho9.at (i := j) (v := .int .i64 (d : Int)) (by unfold natV; rw [List.getElem?_map, HXD.out.2]; rfl)
      have z9 := ho9.z (i := j) hnl
      obtain ⟨X8, hX8⟩ : ∃ X, w8.setCell ⟨p9, j, none⟩ (.int .i64 ((d : Int) + 1)) = X := ⟨_, rfl⟩
      have HO8 := Lib.hid (show OwnAt X8 p9 (natV (l.set j (d + 1))) from by
        rw [← hX8, ← natV_set]
        exact ho9.set _ hnl)
      have HBX8 := Lib.hid (show Below Y.heap.size Y X8 from by rw [← hX8]; exact HB8.out.setCell (p := ⟨p9, j, none⟩) HY9.out _)
      have HWX8 := Lib.hid (bstep HY.out HBX8.out)
      obtain ⟨A', eA, q0, q1⟩ := (HS.out.below HWX8.out) j false (mg x) (VL_at HXD.out.1)
      cases eA
      have q2 : X8.cell? ⟨(A.add (j * 2)).block, (A.add (j * 2)).off + 1, none⟩ = some (.string (mg x)) := by rw [addr_next]; exact q1
      have HTX8 := Lib.hid (HTY.out.below HBX8.out)
      have HNX8 := Lib.hid (HNY.out.below HBX8.out)
      have HN8 := Lib.hid (show NR2 X8 (.slice (some ⟨p9, 0, none⟩) n c9) (l.set j (d + 1)) from by
        have := NR2.at_own (c := c9) HO8.out (by rw [List.length_set, HDL.out, HNN.out]; exact HC9.out.1) HC9.out.2
        rwa [List.length_set, HDL.out, HNN.out] at this)
      have HLR := Lib.hid (fun Z (h : Below X8.heap.size X8 Z) => less_rows (n := n) (HTX8.out.below h) (by rw [tabM_len, HNN.out]) (by omega))
      clear HCN hc91 hc92 h9 ho9 hb8 hnl q1 HO9 HC9 HY9 HB8
      by_cases hx0 : x = 0
      case pos =>
        have hq : eqI false (mg x) false ⟨#[]⟩ = true := by rw [hx0, mg_zero]; exact eqI_iff.2 ⟨rfl, rfl⟩
        clear hx0
        go_wp2_with fail
        have HK := Lib.hid (HKC.out ((tabM Ws).drop 1) (by rw [List.length_drop, tabM_len, HNN.out]; omega) (fun rr hr => HR1.out rr (List.mem_of_mem_drop hr)) l (fun d hd => Nat.lt_of_le_of_lt (HD6.out d hd) (by decide)) _ _ X8 (bstep HWX8.out (Below.refl _ _)) (HLR.out X8 (Below.refl _ _)) (HNX8.out.below (Below.refl _ _)))
        rw [HLS.out] at HK
        refine HK.out.mono ?_
        rintro e X10 ⟨rfl, hb10⟩
        have HB10 := Lib.hid (bstep (bstep HWX8.out (Below.refl _ _)) hb10)
        clear hb10
        go_wp2_with fail
        refine (HAW.out _).mono ?_
        rintro e X11 ⟨rfl, hb11⟩
        go_wp2
        go_ret
        exact ⟨rfl, bstep HB10.out hb11⟩
      case neg =>
        have hq : eqI false (mg x) false ⟨#[]⟩ = false := by
          cases h : eqI false (mg x) false ⟨#[]⟩ with
          | false => rfl
          | true =>
            rw [← mg_zero] at h
            have := congrArg (fun z : ByteArray => bv z.data.toList) (eqI_iff.1 h).2
            simp only [bv_mg] at this
            exact absurd this hx0
        have HK := Lib.hid (HKC.out (tabM Ws) (by rw [tabM_len, HNN.out]; omega) HR1.out (l.set j (d + 1)) (fun c hc => by
          rcases List.mem_or_eq_of_mem_set hc with h | rfl
          · exact Nat.lt_of_le_of_lt (HD6.out c h) (by decide)
          · exact Nat.lt_of_le_of_lt (show d + 1 ≤ 65 by omega) (by decide)) _ _ X8 HWX8.out HTX8.out HN8.out)
        rw [HLO.out hx0] at HK
        clear hx0
        go_wp2_with fail
        refine HK.out.mono ?_
        rintro e X9 ⟨rfl, hb9⟩
        have HB9 := Lib.hid hb9
        clear hb9 HK hX8 x9 z9 q0 q2
        go_wp2_with fail
        have HK := Lib.hid (HKC.out ((tabM Ws).drop 1) (by rw [List.length_drop, tabM_len, HNN.out]; omega) (fun rr hr => HR1.out rr (List.mem_of_mem_drop hr)) l (fun d hd => Nat.lt_of_le_of_lt (HD6.out d hd) (by decide)) _ _ X9 (bstep HWX8.out HB9.out) (HLR.out X9 HB9.out) (HNX8.out.below HB9.out))
        rw [HLS.out] at HK
        refine HK.out.mono ?_
        rintro e X10 ⟨rfl, hb10⟩
        have HB10 := Lib.hid (bstep (bstep HWX8.out HB9.out) hb10)
        clear hb10
        go_wp2_with fail
        refine (HAW.out _).mono ?_
        rintro e X11 ⟨rfl, hb11⟩
        go_wp2
        go_ret
        exact ⟨rfl, bstep HB10.out hb11⟩
    case neg =>
      have hyb : (y != 0) = true := by simpa using hy0
      have HRX := Lib.hid (chg_rows (G := G) (cG := cG) (M := tabM Ws) (by rw [tabM_len, HNN.out]; exact HTY.out) HB7X.out HROW.out (row' := row.set p (sgn z, mg z.natAbs)) (by rw [List.length_set]) (by rw [tabM_len, HNN.out, HRL.out]; exact HQ5.out) HQ6.out (by rw [tabM_len, HNN.out]; exact HC5.out) (by rw [HRL.out]; exact HC6.out))
      rw [tabM_len, HNN.out] at HRX
      have HK := Lib.hid (HKC.out ((tabM Ws).set m (row.set p (sgn z, mg z.natAbs))) (by rw [List.length_set, tabM_len, HNN.out]; omega) (fun rr hr => by
        rcases List.mem_or_eq_of_mem_set hr with h | rfl
        · exact HR1.out rr h
        · rw [List.length_set, HRL.out]; omega) l (fun d hd => Nat.lt_of_le_of_lt (HD6.out d hd) (by decide)) _ _ X7 (bstep HY.out HB7X.out) HRX.out HNX.out)
      rw [HCH.out hy0] at HK
      clear hy0 HCH HRX
      go_wp2_with fail
      refine HK.out.mono ?_
      rintro e X7b ⟨rfl, hb7b⟩
      have HB7b := Lib.hid (bstep HB7X.out hb7b)
      clear hb7b HK HB7X x0 x1 z0 z1 hX7 HNX HTX HQ5 HQ6
      have HCN := Lib.hid (cloneN_any gl cl l (by rw [HDL.out, HNN.out]; omega) (by rw [HDL.out, HNN.out]; omega) X7b (fun i d hi => (HB7b.out.cell (World.block_lt_of_cell? _ _ (HLY.out i d hi))).trans (HLY.out i d hi)))
      rw [HDL.out, HNN.out] at HCN
      go_wp2_with fail
      refine HCN.out.mono ?_
      rintro e w8 ⟨p9, c9, rfl, hc91, hc92, h9, ho9, hb8⟩
      have HB8 := Lib.hid (bstep HB7b.out hb8)
      have HO9 := Lib.hid ho9
      have HC9 := Lib.hid (And.intro hc91 hc92)
      have HY9 := Lib.hid (show Y.heap.size ≤ p9 from Nat.le_trans HB7b.out.size h9)
      have hnl : j < (natV l).length := by rw [natV_len, HDL.out, HNN.out]; exact hjn
      have x9 := ho9.at (i := j) (v := .int .i64 (d : Int)) (by unfold natV; rw [List.getElem?_map, HXD.out.2]; rfl)
      have z9 := ho9.z (i := j) hnl
      obtain ⟨X8, hX8⟩ : ∃ X, w8.setCell ⟨p9, j, none⟩ (.int .i64 ((d : Int) + 1)) = X := ⟨_, rfl⟩
      have HO8 := Lib.hid (show OwnAt X8 p9 (natV (l.set j (d + 1))) from by
        rw [← hX8, ← natV_set]
        exact ho9.set _ hnl)
      have HBX8 := Lib.hid (show Below Y.heap.size Y X8 from by rw [← hX8]; exact HB8.out.setCell (p := ⟨p9, j, none⟩) HY9.out _)
      have HWX8 := Lib.hid (bstep HY.out HBX8.out)
      obtain ⟨A', eA, q0, q1⟩ := (HS.out.below HWX8.out) j false (mg x) (VL_at HXD.out.1)
      cases eA
      have q2 : X8.cell? ⟨(A.add (j * 2)).block, (A.add (j * 2)).off + 1, none⟩ = some (.string (mg x)) := by rw [addr_next]; exact q1
      have HTX8 := Lib.hid (HTY.out.below HBX8.out)
      have HNX8 := Lib.hid (HNY.out.below HBX8.out)
      have HN8 := Lib.hid (show NR2 X8 (.slice (some ⟨p9, 0, none⟩) n c9) (l.set j (d + 1)) from by
        have := NR2.at_own (c := c9) HO8.out (by rw [List.length_set, HDL.out, HNN.out]; exact HC9.out.1) HC9.out.2
        rwa [List.length_set, HDL.out, HNN.out] at this)
      have HLR := Lib.hid (fun Z (h : Below X8.heap.size X8 Z) => less_rows (n := n) (HTX8.out.below h) (by rw [tabM_len, HNN.out]) (by omega))
      clear HCN hc91 hc92 h9 ho9 hb8 hnl q1 HO9 HC9 HY9 HB8
      by_cases hx0 : x = 0
      case pos =>
        have hq : eqI false (mg x) false ⟨#[]⟩ = true := by rw [hx0, mg_zero]; exact eqI_iff.2 ⟨rfl, rfl⟩
        clear hx0
        go_wp2_with fail
        have HK := Lib.hid (HKC.out ((tabM Ws).drop 1) (by rw [List.length_drop, tabM_len, HNN.out]; omega) (fun rr hr => HR1.out rr (List.mem_of_mem_drop hr)) l (fun d hd => Nat.lt_of_le_of_lt (HD6.out d hd) (by decide)) _ _ X8 (bstep HWX8.out (Below.refl _ _)) (HLR.out X8 (Below.refl _ _)) (HNX8.out.below (Below.refl _ _)))
        rw [HLS.out] at HK
        refine HK.out.mono ?_
        rintro e X10 ⟨rfl, hb10⟩
        have HB10 := Lib.hid (bstep (bstep HWX8.out (Below.refl _ _)) hb10)
        clear hb10
        go_wp2_with fail
        refine (HAW.out _).mono ?_
        rintro e X11 ⟨rfl, hb11⟩
        go_wp2
        go_ret
        exact ⟨rfl, bstep HB10.out hb11⟩
      case neg =>
        have hq : eqI false (mg x) false ⟨#[]⟩ = false := by
          cases h : eqI false (mg x) false ⟨#[]⟩ with
          | false => rfl
          | true =>
            rw [← mg_zero] at h
            have := congrArg (fun z : ByteArray => bv z.data.toList) (eqI_iff.1 h).2
            simp only [bv_mg] at this
            exact absurd this hx0
        have HK := Lib.hid (HKC.out (tabM Ws) (by rw [tabM_len, HNN.out]; omega) HR1.out (l.set j (d + 1)) (fun c hc => by
          rcases List.mem_or_eq_of_mem_set hc with h | rfl
          · exact Nat.lt_of_le_of_lt (HD6.out c h) (by decide)
          · exact Nat.lt_of_le_of_lt (show d + 1 ≤ 65 by omega) (by decide)) _ _ X8 HWX8.out HTX8.out HN8.out)
        rw [HLO.out hx0] at HK
        clear hx0
        go_wp2_with fail
        refine HK.out.mono ?_
        rintro e X9 ⟨rfl, hb9⟩
        have HB9 := Lib.hid hb9
        clear hb9 HK hX8 x9 z9 q0 q2
        go_wp2_with fail
        have HK := Lib.hid (HKC.out ((tabM Ws).drop 1) (by rw [List.length_drop, tabM_len, HNN.out]; omega) (fun rr hr => HR1.out rr (List.mem_of_mem_drop hr)) l (fun d hd => Nat.lt_of_le_of_lt (HD6.out d hd) (by decide)) _ _ X9 (bstep HWX8.out HB9.out) (HLR.out X9 HB9.out) (HNX8.out.below HB9.out))
        rw [HLS.out] at HK
        refine HK.out.mono ?_
        rintro e X10 ⟨rfl, hb10⟩
        have HB10 := Lib.hid (bstep (bstep HWX8.out HB9.out) hb10)
        clear hb10
        go_wp2_with fail
        refine (HAW.out _).mono ?_
        rintro e X11 ⟨rfl, hb11⟩
        go_wp2
        go_ret
        exact ⟨rfl, bstep HB10.out hb11⟩
end Go.Proofs.Gv
