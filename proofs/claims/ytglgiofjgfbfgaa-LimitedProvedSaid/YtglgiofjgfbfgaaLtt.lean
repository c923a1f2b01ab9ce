/- limited.Table; limited.Check at lengths within the limit. -/
import Derived.Test.YtglgiofjgfbfgaaLcn
set_option linter.unusedSimpArgs false
set_option linter.unusedVariables false
namespace Go.Proofs.Gv
open Go Go.RowKit Go.Maps

@[go_sem ↓] theorem field_rows (n : Int) (S T : Option Addr) (n1 c1 m1 d1 : Nat) (w : World) : (Instr.field 78 (.agg #[.int .i64 n, .slice S n1 c1, .slice T m1 d1]) 2).run Try.prog w = .ok (.slice T m1 d1) w := by kernel_rfl
/-- A row of the table, as integers. -/
noncomputable def rowX (O : List Nat) (n r : Nat) : List (Bool × ByteArray) := (List.range ((n + 1) * (n + 1))).map fun x => (oB (tb O n r (x / (n + 1)) (x % (n + 1))), oS (tb O n r (x / (n + 1)) (x % (n + 1))))
/-- The table. -/
noncomputable def tabX (Ws : List Nat) (m : Nat) : List (List (Bool × ByteArray)) := (List.range (m + 1)).map fun j => rowX (owL Ws) Ws.length (m - j)
theorem rowX_len (O : List Nat) (n r : Nat) : (rowX O n r).length = (n + 1) * (n + 1) := by unfold rowX; simp
theorem tabX_len (Ws : List Nat) (m : Nat) : (tabX Ws m).length = m + 1 := by unfold tabX; simp
theorem tabX_at {Ws : List Nat} {m j : Nat} (h : j ≤ m) : (tabX Ws m)[j]? = some (rowX (owL Ws) Ws.length (m - j)) := by
  unfold tabX
  rw [List.getElem?_map, List.getElem?_range (by omega)]
  rfl
theorem rowX_at {O : List Nat} {n r x : Nat} (h : x < (n + 1) * (n + 1)) : (rowX O n r)[x]? = some (oB (tb O n r (x / (n + 1)) (x % (n + 1))), oS (tb O n r (x / (n + 1)) (x % (n + 1)))) := by
  unfold rowX
  rw [List.getElem?_map, List.getElem?_range h]
  rfl
theorem rowX_sl {W : World} {g n r : Nat} {O : List Nat} (h : RowT W g O n r) : Sl W (some ⟨g, 0, none⟩) (rowX O n r) := fun i b s hi => by
  have hl := (List.getElem?_eq_some_iff.1 hi).1
  rw [rowX_len] at hl
  rw [rowX_at hl] at hi
  cases hi
  have h1 : i / (n + 1) ≤ n := by
    have := Nat.div_lt_of_lt_mul hl
    omega
  have h2 : i % (n + 1) ≤ n := by have := Nat.mod_lt i (show 0 < n + 1 by omega); omega
  obtain ⟨c0, c1⟩ := h _ _ h1 h2
  have e : i / (n + 1) * (n + 1) + i % (n + 1) = i := by rw [Nat.mul_comm]; exact Nat.div_add_mod i (n + 1)
  rw [e] at c0 c1
  exact ⟨_, rfl, by rw [addr0]; exact c0, by rw [addr0]; exact c1⟩
theorem nn_le {n : Nat} (h : n ≤ 12) : (n + 1) * (n + 1) ≤ 169 := Nat.mul_le_mul (show n + 1 ≤ 13 by omega) (show n + 1 ≤ 13 by omega)
theorem tabX_rws {Ws : List Nat} {m : Nat} (h12 : Ws.length ≤ 12) (hm : m ≤ 64) {w' : World} {T : Nat} {gs : Nat → Nat}
    (h : ∀ j, j ≤ m → w'.cell? ⟨T, j, none⟩ = some (.slice (some ⟨gs j, 0, none⟩) ((Ws.length + 1) * (Ws.length + 1)) ((Ws.length + 1) * (Ws.length + 1))) ∧ RowT w' (gs j) (owL Ws) Ws.length (m - j)) :
    RwS w' (.slice (some ⟨T, 0, none⟩) (m + 1) (m + 1)) (tabX Ws m) := by
  have hn := nn_le h12
  refine ⟨⟨T, 0, none⟩, m + 1, by rw [tabX_len], by rw [tabX_len]; exact Nat.le_refl _, by unfold maxLen; omega, fun j row hj => ?_⟩
  have hl := (List.getElem?_eq_some_iff.1 hj).1
  rw [tabX_len] at hl
  rw [tabX_at (by omega)] at hj
  cases hj
  obtain ⟨h1, h2⟩ := h j (by omega)
  exact ⟨⟨gs j, 0, none⟩, _, by rw [addr0, rowX_len]; exact h1, by rw [rowX_len]; exact Nat.le_refl _, by unfold maxLen; omega, rowX_sl h2⟩
set_option maxRecDepth 100000 in
set_option maxHeartbeats 1600000 in
theorem large39_any (n m : Nat) (hn : n ≤ 12) (hm : m ≤ 64) (w : World) :
    Calls Try.prog 80 #[.int .i64 (n : Int), .int .i64 (m : Int)] w fun e w' => e = .returned (.bool false) ∧ w' = w := by
  obtain ⟨n1, hn1⟩ : ∃ x, n + 1 = x := ⟨_, rfl⟩
  obtain ⟨m1, hm1⟩ : ∃ x, m + 1 = x := ⟨_, rfl⟩
  obtain ⟨p, hp⟩ : ∃ x, m1 * n1 = x := ⟨_, rfl⟩
  obtain ⟨r, hr⟩ : ∃ x, p * n1 = x := ⟨_, rfl⟩
  have h1 : p ≤ 65 * 13 := by rw [← hp]; exact Nat.mul_le_mul (by omega) (by omega)
  have h2 : r ≤ 65 * 13 * 13 := by rw [← hr]; exact Nat.mul_le_mul h1 (by omega)
  have hnI : (n : Int) + 1 = (n1 : Int) := by omega
  have hmI : (m : Int) + 1 = (m1 : Int) := by omega
  have hpI : (m1 : Int) * (n1 : Int) = (p : Int) := by rw [← hp]; simp
  have hrI : (p : Int) * (n1 : Int) = (r : Int) := by rw [← hr]; simp
  have hn2 : n1 ≤ 13 := by omega
  have hm2 : m1 ≤ 65 := by omega
  have hrB : decide ((65536 : Int) < (r : Int)) = false := by simp; omega
  clear hn1 hm1 hp hr
  go_enter Try.func80, Try.ntmps80
  go_wp2
  go_ret
  exact ⟨rfl, rfl⟩
set_option maxRecDepth 100000 in
set_option maxHeartbeats 1600000 in
theorem tab39_ok {g c n m : Nat} {Ws : List Nat} (hn : Ws.length = n) (h2 : 2 ≤ n) (h12 : n ≤ 12) (hc : n ≤ c) (hcm : c ≤ maxLen) (hz : ∀ z ∈ Ws, z < 2 ^ 64) (hm : 1 ≤ m) (hm64 : m ≤ 64) (hf : n ≤ 2 ^ m) (W : World) (hS : Sl W (some ⟨g, 0, none⟩) (VL Ws)) :
    Calls Try.prog 36 #[.slice (some ⟨g, 0, none⟩) n c, .int .i64 m] W fun e w' => ∃ T, e = .returned (.tuple #[.slice (some ⟨T, 0, none⟩) (m + 1) (m + 1), .int .i64 0]) ∧ RwS w' (.slice (some ⟨T, 0, none⟩) (m + 1) (m + 1)) (tabX Ws m) ∧ Below W.heap.size W w' := by
  have HCK := check39_any c (some ⟨g, 0, none⟩) (VL Ws) m (by rw [VL_len, hn]; unfold maxLen; omega) (fun x hx => Nat.le_trans (VL8 hz x hx) (by decide)) (wf_m hm64) W hS
  rw [limE_zero (by omega) (by omega) hm hm64 (by omega), VL_len, hn] at HCK
  have HNP := Lib.hid (fun X (h : Below W.heap.size W X) => newPlan_any ⟨g, 0, none⟩ c Ws m (by omega) (by omega) hm64 (by omega) hcm hz X (hS.below h))
  have HLG := Lib.hid (large39_any n m h12 hm64)
  rw [hn] at HNP
  unfold NpQ plV at HNP
  have HCK := Lib.hid HCK
  have HTR := Lib.hid (fun w' T gs h => tabX_rws (Ws := Ws) (m := m) (w' := w') (T := T) (gs := gs) (by omega) hm64 h)
  rw [hn] at HNP HTR
  obtain ⟨m1, hm1⟩ : ∃ x, m + 1 = x := ⟨_, rfl⟩
  obtain ⟨n1, hn1⟩ : ∃ x, n + 1 = x := ⟨_, rfl⟩
  rw [hm1] at HNP HTR ⊢
  clear hS hz hn hcm hc hf hm
  go_enter Try.func36, Try.ntmps36
  go_wp2_with fail
  refine HCK.out.mono ?_
  rintro e w1 ⟨rfl, hb1⟩
  have HB1 := Lib.hid hb1
  clear hb1
  go_wp2_with fail
  refine (HLG.out _).mono ?_
  rintro e w2 ⟨rfl, ew⟩
  obtain rfl := ew
  go_wp2_with fail
  refine (HNP.out _ HB1.out).mono ?_
  rintro e w3 ⟨S, T, gs, rfl, -, hr, hb3⟩
  have HF := Lib.hid (And.intro (HTR.out _ _ _ hr) (bstep HB1.out hb3))
  clear hr hb3
  go_wp2
  refine bodyPost_ret (v := .tuple #[.slice (some ⟨T, 0, none⟩) m1 m1, .int .i64 0]) (by simp [results, Try.results36, go_sem]) rfl ?_
  exact ⟨T, rfl, HF.out.1, HF.out.2⟩
set_option maxRecDepth 100000 in
set_option maxHeartbeats 1600000 in
theorem fits39_any {g c n : Nat} {ds : List Nat} (hn : ds.length = n) (h0 : 0 < n) (hl : n ≤ 1000) (hd : ∀ d ∈ ds, 1 ≤ d ∧ d ≤ 32) (w : World) (hr : BC w g (natV ds)) :
    Calls Try.prog 84 #[.slice (some ⟨g, 0, none⟩) n c] w fun e w' => e = .returned (.bool (decide (krL 32 ds ≤ 2 ^ 32))) ∧ Below w.heap.size w w' := by
  have HM := Lib.hid (maxB_any (m := 32) (c := c) hn h0 hl (fun d hd2 => (hd d hd2).2) w hr)
  have HF := Lib.hid (mfits_any (c := c) hn hl hd w hr)
  obtain ⟨B, hB⟩ : ∃ x, decide (krL 32 ds ≤ 2 ^ 32) = x := ⟨_, rfl⟩
  rw [hB] at HF ⊢
  clear hn h0 hd hr hB
  go_enter Try.func84, Try.ntmps84
  go_wp2_with fail
  refine HM.out.mono ?_
  rintro e w1 ⟨⟨r, rfl, hr⟩, ew⟩
  obtain rfl := ew
  go_wp2_with fail
  refine HF.out.mono ?_
  rintro e w2 ⟨rfl, hb⟩
  have HB := Lib.hid hb
  clear hb
  cases B
  all_goals
    go_wp2
    go_ret
    exact ⟨rfl, HB.out⟩
/-- What Check answers at lengths within the limit. -/
noncomputable def chk39 (Ws : List Nat) (m : Nat) (N : List (List (Bool × ByteArray))) (ds : List Nat) : Int :=
  if tabX Ws m ≠ N then 23 else if csP (Ws.zip ds) ≠ limC Ws m then 23 else if krL 32 ds ≤ 2 ^ 32 then 0 else 23
theorem tabX_cost {Ws : List Nat} {m : Nat} (h2 : 2 ≤ Ws.length) (h : Ws.length ≤ 2 ^ m) : (rowX (owL Ws) Ws.length m)[Ws.length + 1]? = some (false, mg (limC Ws m)) := by
  have hl : Ws.length + 1 < (Ws.length + 1) * (Ws.length + 1) := by
    have : (Ws.length + 1) * 2 ≤ (Ws.length + 1) * (Ws.length + 1) := Nat.mul_le_mul_left _ (by omega)
    omega
  rw [rowX_at hl, Nat.div_self (by omega), Nat.mod_self, (limG h).1]
  rfl
set_option maxRecDepth 100000 in
set_option maxHeartbeats 4000000 in
theorem chk39_ok {g c n m q : Nat} {Ws ds : List Nat} (hn : Ws.length = n) (h2 : 2 ≤ n) (h12 : n ≤ 12) (hc : n ≤ c) (hcm : c ≤ maxLen) (hz : ∀ z ∈ Ws, z < 2 ^ 64) (hm : 1 ≤ m) (hm32 : m ≤ 32) (hf : n ≤ 2 ^ m) (hd : ds.length = n) (hb : ∀ d ∈ ds, 1 ≤ d ∧ d ≤ m) (N : List (List (Bool × ByteArray))) (v : Value)
    (w : World) (hS : Sl w (some ⟨g, 0, none⟩) (VL Ws)) (hv : RwS w v N) (hr : BC w q (natV ds)) :
    Calls Try.prog 39 #[.slice (some ⟨g, 0, none⟩) n c, .int .i64 m, v, .slice (some ⟨q, 0, none⟩) n n] w fun e w' => e = .returned (.int .i64 (chk39 Ws m N ds)) ∧ Below w.heap.size w w' := by
  have HTB := Lib.hid (tab39_ok (g := g) (c := c) hn h2 h12 hc hcm hz hm (by omega) hf w hS)
  have HEQ := Lib.hid (fun T W (h1 : RwS W (.slice (some ⟨T, 0, none⟩) (m + 1) (m + 1)) (tabX Ws m)) (hb : Below w.heap.size w W) => eqFn_any _ v (tabX Ws m) N (by rw [tabX_len]; omega) (fun r hr => by
    obtain ⟨j, hj, rfl⟩ := List.mem_map.1 hr
    rw [rowX_len]
    have := nn_le (show Ws.length ≤ 12 by omega)
    omega) W h1 (hv.below hb))
  have HFT := Lib.hid (fun W (hb2 : Below w.heap.size w W) => fits39_any (c := n) hd (by omega) (by omega) (fun d hd => by have := hb d hd; omega) W (hr.below hb2))
  have HCO := Lib.hid (tabX_cost (Ws := Ws) (m := m) (by omega) (by omega))
  have HDS := Lib.hid hb
  have HLN := Lib.hid (And.intro hn hd)
  have HZ := Lib.hid hz
  have HS := Lib.hid hS
  have HR := Lib.hid hr
  have HPB := Lib.hid (csP_bd (Ws := Ws) (ds := ds) (by omega) hz (fun d hd => by have := hb d hd; omega) (by omega))
  have HCK := Lib.hid (show chk39 Ws m N ds = if tabX Ws m ≠ N then 23 else if csP (Ws.zip ds) ≠ limC Ws m then 23 else if krL 32 ds ≤ 2 ^ 32 then 0 else 23 from rfl)
  obtain ⟨R, hR⟩ : ∃ R, chk39 Ws m N ds = R := ⟨_, rfl⟩
  rw [hR] at HCK ⊢
  have hmI : (m : Int) ≤ 32 := by omega
  clear hn hz hS hv hr hd hb hf hc hcm hR
  obtain ⟨m1, hm1⟩ : ∃ x, m + 1 = x := ⟨_, rfl⟩
  rw [hm1] at HTB HEQ
  by_cases htab : tabX Ws m = N
  case neg =>
    rw [if_pos htab] at HCK
    obtain rfl := HCK.out
    rw [decide_eq_false htab] at HEQ
    clear htab
    go_enter Try.func39, Try.ntmps39
    go_wp2_with fail
    refine HTB.out.mono ?_
    rintro e w1 ⟨T, rfl, ht, hb1⟩
    have HB1 := Lib.hid hb1
    have HE1 := Lib.hid (HEQ.out T _ ht hb1)
    clear ht hb1
    go_wp2_with fail
    refine HE1.out.mono ?_
    rintro e w2 ⟨rfl, hb2⟩
    go_wp2
    go_ret
    exact ⟨rfl, bstep HB1.out hb2⟩
  case pos =>
    rw [if_neg (fun h => h htab)] at HCK
    rw [decide_eq_true htab] at HEQ
    clear htab
    go_enter Try.func39, Try.ntmps39
    go_wp2_with fail
    refine HTB.out.mono ?_
    rintro e w1 ⟨T, rfl, ht, hb1⟩
    have HB1 := Lib.hid hb1
    have HE1 := Lib.hid (HEQ.out T _ ht hb1)
    have HT1 := Lib.hid ht
    clear ht hb1 HTB HEQ
    go_wp2_with fail
    refine HE1.out.mono ?_
    rintro e w2 ⟨rfl, hb2⟩
    have HB2 := Lib.hid (bstep HB1.out hb2)
    have HT2 := Lib.hid (HT1.out.below hb2)
    clear hb2 HB1 HT1 HE1
    go_upto_region 7 with fail
    have HP := Lib.hid (BC.new w2 w2.heap.size #[.bool false, .string ⟨#[]⟩] 29 rfl)
    have HB3 := Lib.hid (show Below w2.heap.size w2 (w2.alloc (.cells #[.bool false, .string ⟨#[]⟩] 29)) from (Below.refl _ _).alloc (Nat.le_refl _) _)
    obtain ⟨B, hB⟩ : ∃ b, w2.heap.size = b := ⟨_, rfl⟩
    have HBE := Lib.hid hB
    obtain ⟨W0, hW0⟩ : ∃ X, w2.alloc (.cells #[.bool false, .string ⟨#[]⟩] 29) = X := ⟨_, rfl⟩
    rw [hW0] at HP HB3 ⊢
    rw [hB] at HP HB3 ⊢
    clear hW0 hB
    rw [← mg_zero] at HP
    go_wp2_with fail
    go_loopg [36] (n + 1) (fun gg v36 wr => ∃ i : Nat, v36 = .int .i64 (i : Int) ∧ i ≤ n ∧ n - i < gg ∧ BC wr B [.bool false, .string (mg ((prods Ws ds).take i).sum)] ∧ Below B w2 wr)
    case atStart => exact ⟨0, rfl, Nat.zero_le _, by omega, HP.out, HB3.out⟩
    case round =>
      obtain ⟨i, rfl, hi, hig, hp, hb⟩ := hrel
      clear HP HB3
      have HG := Lib.hid hig
      have HP := Lib.hid hp
      have HB := Lib.hid hb
      have hb2 : Below w2.heap.size w2 wr := by rw [HBE.out]; exact hb
      have HBW := Lib.hid (bstep HB2.out hb2)
      clear hig hp hb
      by_cases hlt : i < n
      · have hltI : (i : Int) < n := by omega
        obtain ⟨x, hx⟩ : ∃ x, Ws[i]? = some x := ⟨Ws[i]'(by rw [HLN.out.1]; exact hlt), List.getElem?_eq_getElem _⟩
        obtain ⟨d, hd⟩ : ∃ d, ds[i]? = some d := ⟨ds[i]'(by rw [HLN.out.2]; exact hlt), List.getElem?_eq_getElem _⟩
        have hd1 := (HDS.out d (List.mem_of_getElem? hd)).1
        have hd2 := (HDS.out d (List.mem_of_getElem? hd)).2
        obtain ⟨A, e, c0, c1⟩ := (HS.out.below HBW.out) i false (mg x) (VL_at hx)
        cases e
        rw [addr0] at c0 c1
        have c3 := (HR.out.below HBW.out).at i _ (natV_is hd)
        have hd1B : decide ((d : Int) < 1) = false := by simp; omega
        have hd2B : decide ((m : Int) < (d : Int)) = false := by simp; omega
        have HX := Lib.hid (take_sum_succ (prods_at hx hd))
        have hxs := HZ.out x (List.mem_of_getElem? hx)
        have hpt := take_sum_le (prods Ws ds) i
        have hds : d < 2 ^ 62 := by omega
        have hps : x * d < 2 ^ (64 + 62) := by rw [Nat.pow_add]; exact Nat.mul_lt_mul'' hxs hds
        have HOF := Lib.hid (fun W => cOfN d hds W)
        have HMU := Lib.hid (fun W => show Calls Try.prog 13 #[.agg #[.bool false, .string (mg x)], .agg #[.bool false, .string (mg d)]] W fun e w' => e = .returned (.agg #[.bool false, .string (mg (x * d))]) ∧ Below W.heap.size W w' from by
          have := cMul (VN_rp (N := 64) hxs (by omega)) (VN_rp (N := 62) hds (by omega)) W
          rwa [show (x : Int) * (d : Int) = ((x * d : Nat) : Int) by simp, Int.natAbs_natCast, show sgn ((x * d : Nat) : Int) = false from decide_eq_false (by omega)] at this)
        have HAD := Lib.hid (fun W => cAddN (x := ((prods Ws ds).take i).sum) (d := x * d) 136 126 (Nat.lt_of_le_of_lt hpt HPB.out) hps (by decide) (by decide) W)
        obtain ⟨S, hS⟩ : ∃ S, ((prods Ws ds).take i).sum = S := ⟨_, rfl⟩
        obtain ⟨xd, hxd⟩ : ∃ y, x * d = y := ⟨_, rfl⟩
        rw [hS] at HX HAD HP
        rw [hxd] at HX HAD HMU
        have x0 := HP.out.at 0 _ rfl
        have x1 := HP.out.at 1 _ rfl
        clear hxs hds hpt hps hS hxd hx hd
        go_upto_region 12 with fail
        clear x0 x1
        refine wp_region_front 9 zvI (by kernel_rfl) shI (by kernel_rfl) (by kernel_rfl) (zvI_alloc _ (by kernel_rfl)) (shI_store _ (by kernel_rfl)) ?_
        intro mm BW hm1 hm2 hBW
        haveI := clm_some mm BW
        have fq0 := fun u : Clm mm BW => u.cell hm1 hBW (HP.out.at 0 _ rfl)
        have fr0 := fun u : Clm mm BW => u.cell hm1 hBW (HP.out.at 1 _ rfl)
        have fq1 := fun u : Clm mm BW => u.cell hm1 hBW c0
        have fr1 := fun u : Clm mm BW => u.cell hm1 hBW c1
        simp only [frontOf, unmade, List.take_succ_cons, List.take_zero, List.map_cons, List.map_nil]
        iterate 6 (go_big_quiet_step (fail))
        go_big_quiet_step ((go_at_call 12; exact quiet_clm hm2 HOF.out _))
        go_big_quiet_step ((go_at_call 13; exact quiet_clm hm2 HMU.out _))
        go_big_quiet_step ((go_at_call 42; exact quiet_clm hm2 HAD.out _))
        refine wpQuiet_nil ?_
        refine ⟨List.forall_mem_nil _, ?_⟩
        intro γ w9 hB9 hF
        clear hF hBW this hm1 hm2 fq0 fr0 fq1 fr1
        clear BW mm
        simp only [madesFrom, Facts, patch, List.take_succ_cons, List.take_zero, List.drop_succ_cons, List.drop_zero]
        clear γ
        have HQ5 := Lib.hid (HP.out.below hB9)
        have HQB := Lib.hid (HB.out.trans (hB9.mono (by have := HB.out.size; have := HBE.out; omega)))
        clear hB9 HP HB HOF HMU HAD c0 c1 c3 hb2
        have x0 := HQ5.out.at 0 _ rfl
        have x1 := HQ5.out.at 1 _ rfl
        have z0 := HQ5.out.z 0 (by simp)
        have z1 := HQ5.out.z 1 (by simp)
        go_wp2_with fail
        go_roundg (n - i)
        case rel =>
          refine ⟨i + 1, by go_num, by omega, by omega, ?_, (HQB.out.setCell (p := ⟨_, 0, none⟩) (Nat.le_refl _) _).setCell (p := ⟨_, 1, none⟩) (Nat.le_refl _) _⟩
          rw [HX.out]
          exact HQ5.out.set2 0 1 _ _ (by simp) (by simp)
        case measure => have := HG.out; omega
      · obtain rfl : n = i := by omega
        have hB : decide ((n : Int) < n) = false := by simp
        have hpe : ((prods Ws ds).take n).sum = csP (Ws.zip ds) := by
          have h1 := HLN.out
          rw [List.take_of_length_le (by rw [prods_len (by omega)]; omega)]
          rfl
        rw [hpe] at HP
        clear hpe
        have ht0 := HT2.out.below hb2
        have HFT1 := Lib.hid (fun W (h : Below wr.heap.size wr W) => HFT.out W (bstep HBW.out h))
        obtain ⟨T', c', ee, -, -, hat⟩ := ht0
        have eT : T' = ⟨T, 0, none⟩ := by injection ee with h1 h2 h3; exact (Option.some.inj h1).symm
        subst eT
        clear ee
        obtain ⟨Ai, ci, t0, -, -, t1⟩ := hat 0 _ (tabX_at (Nat.zero_le _))
        rw [Nat.sub_zero, rowX_len, HLN.out.1] at t0
        rw [Nat.sub_zero] at t1
        rw [addr0] at t0
        obtain ⟨A1, e1, t2, t3⟩ := t1 _ _ _ HCO.out
        cases e1
        obtain ⟨n1, hn1⟩ : ∃ x, n + 1 = x := ⟨_, rfl⟩
        obtain ⟨NN, hNN⟩ : ∃ x, n1 * n1 = x := ⟨_, rfl⟩
        have hlt1 : n1 < NN := by
          rw [← hNN]
          have : n1 * 2 ≤ n1 * n1 := Nat.mul_le_mul_left _ (by omega)
          omega
        rw [HLN.out.1, hn1] at t2 t3
        rw [hn1, hNN] at t0
        have t4 : wr.cell? ⟨(Ai.add (n1 * 2)).block, (Ai.add (n1 * 2)).off + 1, none⟩ = some (.string (mg (limC Ws m))) := by rw [addr_next]; exact t3
        have hn1I : (n : Int) + 1 = (n1 : Int) := by omega
        have hlt1I : (n1 : Int) < (NN : Int) := by omega
        have hNN2 : NN ≤ 169 := by rw [← hNN]; exact Nat.mul_le_mul (show n1 ≤ 13 by omega) (show n1 ≤ 13 by omega)
        have hmg : eqI false (mg (csP (Ws.zip ds))) false (mg (limC Ws m)) = decide (csP (Ws.zip ds) = limC Ws m) := by
          by_cases e : csP (Ws.zip ds) = limC Ws m
          · rw [e, decide_eq_true rfl]
            exact eqI_iff.2 ⟨rfl, rfl⟩
          · rw [decide_eq_false e]
            exact Bool.eq_false_iff.2 fun h => e (mg_inj9 (eqI_iff.1 h).2)
        obtain ⟨cs, hcs⟩ : ∃ x, csP (Ws.zip ds) = x := ⟨_, rfl⟩
        obtain ⟨lc, hlc⟩ : ∃ x, limC Ws m = x := ⟨_, rfl⟩
        obtain ⟨kl, hkl⟩ : ∃ x, decide (krL 32 ds ≤ 2 ^ 32) = x := ⟨_, rfl⟩
        rw [hcs] at HP hmg HCK
        rw [hlc] at hmg HCK t4 t3
        rw [hkl] at HFT1
        have HKL := Lib.hid hkl
        have HBF := Lib.hid (fun W (h : Below wr.heap.size wr W) => bstep HBW.out h)
        have hm1p : 0 < m1 := by omega
        clear hcs hlc hkl hn1 hNN t1 hat hb2 t3
        go_upto_region 14 with fail
        haveI := cls_some wr
        have f0 : ∀ u : Cl wr, u.x.cell? ⟨B, 0, none⟩ = some (.bool false) := fun u => (HP.out.below u.h).at 0 _ rfl
        have f1 : ∀ u : Cl wr, u.x.cell? ⟨B, 1, none⟩ = some (.string (mg cs)) := fun u => (HP.out.below u.h).at 1 _ rfl
        have f2 : ∀ u : Cl wr, u.x.cell? ⟨T, 0, none⟩ = some (.slice (some Ai) NN ci) := fun u => cellBelow t0 u.h
        have f3 : ∀ u : Cl wr, u.x.cell? (Ai.add (n1 * 2)) = some (.bool false) := fun u => cellBelow t2 u.h
        have f4 : ∀ u : Cl wr, u.x.cell? ⟨(Ai.add (n1 * 2)).block, (Ai.add (n1 * 2)).off + 1, none⟩ = some (.string (mg lc)) := fun u => cellBelow t4 u.h
        clear t0 t2 t4
        by_cases hce : cs = lc
        · rw [decide_eq_true hce] at hmg
          rw [if_neg (fun h => h hce)] at HCK
          clear hce
          refine wp_region_cls (by kernel_rfl) ?_
          iterate 12 (go_big_quiet_step (fail))
          go_big_quiet_step ((go_at_call 84; exact quiet_cB (Below.refl _ _) HFT1.out _))
          iterate 2 (go_big_quiet_step (fail))
          refine wpQuiet_nil ?_
          intro w7 hw7
          obtain ⟨u7, rfl⟩ := hw7
          have HBG := Lib.hid (HBF.out _ u7.h)
          obtain ⟨X7, hX7⟩ : ∃ X, u7.x = X := ⟨_, rfl⟩
          rw [hX7] at HBG ⊢
          clear f0 f1 f2 f3 f4
          cases kl with
          | true =>
            rw [if_pos (of_decide_eq_true HKL.out)] at HCK
            obtain rfl := HCK.out
            go_wp2
            go_ret
            exact ⟨rfl, HBG.out⟩
          | false =>
            rw [if_neg (of_decide_eq_false HKL.out)] at HCK
            obtain rfl := HCK.out
            go_wp2
            go_ret
            exact ⟨rfl, HBG.out⟩
        · rw [decide_eq_false hce] at hmg
          rw [if_pos hce] at HCK
          obtain rfl := HCK.out
          clear hce
          refine wp_region_cls (by kernel_rfl) ?_
          iterate 15 (go_big_quiet_step (fail))
          refine wpQuiet_nil ?_
          intro w7 hw7
          obtain ⟨u7, rfl⟩ := hw7
          have HBG := Lib.hid (HBF.out _ u7.h)
          obtain ⟨X7, hX7⟩ : ∃ X, u7.x = X := ⟨_, rfl⟩
          rw [hX7] at HBG ⊢
          clear f0 f1 f2 f3 f4
          go_wp2
          go_ret
          exact ⟨rfl, HBG.out⟩
end Go.Proofs.Gv
