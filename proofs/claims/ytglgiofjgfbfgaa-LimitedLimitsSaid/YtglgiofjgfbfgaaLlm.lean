/- The law LimitedLimits. -/
import Derived.Test.YtglgiofjgfbfgaaLslP
import Derived.Test.YtglgiofjgfbfgaaLimP
set_option linter.unusedSimpArgs false
set_option linter.unusedVariables false
namespace Go.Proofs.Gv
open Go Go.RowKit Go.Maps

@[go_sem] theorem run_max5z {P : Program} {w : World} (ts : Array TypeId) (t : TypeId) : (Builtin.max_ ts t #[.int .i64 0, .int .i64 0, .int .i64 0, .int .i64 0, .int .i64 0]).run P w = .ok (.int .i64 0) w := by
  first
  | rfl
  | simp [Builtin.max_, go_sem]
theorem fold_min_eq {m : Int} : ∀ (zs : List Int) (a : Int), a = m → (∀ z ∈ zs, z = m) → zs.foldl min a = m
  | [], a, h, _ => h
  | z :: r, a, h, hz => fold_min_eq r (min a z) (by have := hz z List.mem_cons_self; omega) fun y hy => hz y (List.mem_cons_of_mem _ hy)
theorem minOf_eq {m : Int} {zs : List Int} (h0 : 0 < zs.length) (h : ∀ z ∈ zs, z = m) : Lib.minOf zs = m := by
  cases zs with
  | nil => simp at h0
  | cons z r => exact fold_min_eq _ _ (h z List.mem_cons_self) h
theorem min39_any {g n m : Nat} {ds : List Nat} (hn : ds.length = n) (h0 : 0 < n) (hl : n ≤ 1000) (h1 : ∀ d ∈ ds, d = m) (W : World) (h : BC W g (natV ds)) :
    Calls Try.prog 22 #[.slice (some ⟨g, 0, none⟩) n n] W fun e w' => e = .returned (.int .i64 (m : Int)) ∧ w' = W := by
  refine (Try.slices_Min_int g 0 n n (ds.map fun (k : Nat) => (k : Int)) W h0 (by rw [List.length_map, hn]; exact Nat.le_refl _) (by omega) (fun j hj => ?_)).mono ?_
  · rw [List.length_map] at hj
    rw [Nat.zero_add, h.at j _ (natV_is (List.getElem?_eq_getElem hj)), List.getD_eq_getElem?_getD, List.getElem?_map, List.getElem?_eq_getElem hj]
    rfl
  · rintro e w' ⟨rfl, rfl⟩
    refine ⟨?_, rfl⟩
    rw [minOf_eq (m := (m : Int)) (by rw [List.length_take, List.length_map]; omega) fun z hz => ?_]
    obtain ⟨d, hd, rfl⟩ := List.mem_map.1 (List.mem_of_mem_take hz)
    rw [h1 d hd]
theorem hufC_csP (Ws : List Nat) : hufC Ws = csP (Ws.zip (lenH 2 Ws)) := rfl
/-- Penalty at weights that fit. -/
theorem pen39_ok {g c n m : Nat} {Ws : List Nat} (hn : Ws.length = n) (h2 : 2 ≤ n) (h12 : n ≤ 12) (hc : n ≤ c) (hcm : c ≤ maxLen) (hz : ∀ z ∈ Ws, z < 2 ^ 64) (hm : 1 ≤ m) (hm64 : m ≤ 64) (hf : n ≤ 2 ^ m) (W : World) (hS : Sl W (some ⟨g, 0, none⟩) (VL Ws)) :
    Calls Try.prog 17 #[.slice (some ⟨g, 0, none⟩) n c, .int .i64 m] W fun e w' => e = .returned (.tuple #[.agg #[.bool false, .string (mg (limC Ws m - hufC Ws))], .int .i64 0]) ∧ Below W.heap.size W w' := by
  have h := Penalty39_any c (some ⟨g, 0, none⟩) (VL Ws) m (by rw [VL_len, hn]; exact hc) hcm (.inl (by rw [VL_len, hn]; exact h12)) (VL8 hz) (wf_m hm64) W hS
  rw [VL_len, hn] at h
  refine h.mono ?_
  rintro e w' ⟨-, h, hb⟩
  obtain ⟨Us, e1, rfl⟩ := h (limE_zero (by omega) (by omega) hm hm64 (by omega))
  obtain rfl := VL_inj e1
  have hle := lim_huf (Ws := Ws) (m := m) (by omega) (by omega)
  rw [← hufC_csP] at hle
  refine ⟨?_, hb⟩
  rw [Int.toNat_natCast, show sgn ((limC Ws m : Int) - (hufC Ws : Int)) = false from decide_eq_false (by omega), show ((limC Ws m : Int) - (hufC Ws : Int)).natAbs = limC Ws m - hufC Ws from by omega]
/-- Huffman's lengths, as a row. -/
theorem huf39_ok {g c n : Nat} {Ws : List Nat} (hn : Ws.length = n) (h2 : 2 ≤ n) (h12 : n ≤ 12) (hc : n ≤ c) (hcm : c ≤ maxLen) (hz : ∀ z ∈ Ws, z < 2 ^ 64) (W : World) (hS : Sl W (some ⟨g, 0, none⟩) (VL Ws)) :
    Calls Try.prog 18 #[.int .i64 2, .slice (some ⟨g, 0, none⟩) n c] W fun e w' => ∃ v, e = .returned (.tuple #[v, .int .i64 0]) ∧ RowAt w' v (intsV ((lenH 2 Ws).map fun (k : Nat) => (k : Int))) ∧ Below W.heap.size W w' := by
  have h := Lengths_any 2 c (some ⟨g, 0, none⟩) (VL Ws) (by rw [VL_len, hn]; omega) (fun x hx => Nat.le_trans (VL8 hz x hx) (by decide)) W hS
  rw [lenW_two9, chkW_VL (by omega) (by omega), VL_len, hn] at h
  refine h.mono ?_
  rintro e w' ⟨v, rfl, -, hv, hb⟩
  obtain ⟨q, Us, hq, e2, -, -, -, -, hnu⟩ := hv rfl
  obtain rfl := VL_inj e2
  obtain rfl : q = 2 := by omega
  refine ⟨v, rfl, ?_, hb⟩
  rw [intsV_nat]
  exact hnu.rowAt
/-- Their cost. -/
theorem hco39_ok {g c n : Nat} {Ws : List Nat} (hn : Ws.length = n) (h2 : 2 ≤ n) (h12 : n ≤ 12) (hc : n ≤ c) (hcm : c ≤ maxLen) (hz : ∀ z ∈ Ws, z < 2 ^ 64) (v : Value) (W : World) (hS : Sl W (some ⟨g, 0, none⟩) (VL Ws)) (hv : RowAt W v (intsV ((lenH 2 Ws).map fun (k : Nat) => (k : Int)))) :
    Calls Try.prog 19 #[.slice (some ⟨g, 0, none⟩) n c, v] W fun e w' => e = .returned (.tuple #[.agg #[.bool false, .string (mg (hufC Ws))], .int .i64 0]) ∧ Below W.heap.size W w' := by
  have h := Cost_any c (some ⟨g, 0, none⟩) (VL Ws) v ((lenH 2 Ws).map fun (k : Nat) => (k : Int)) (by rw [VL_len, hn]; omega) (by rw [List.length_map, lenH_len]; unfold maxLen; omega) (fun x hx => Nat.le_trans (VL8 hz x hx) (by decide)) W hS hv
  rw [hce9 (by omega) (by omega) (chkW_VL (by omega) (by omega)), VL_len, hn] at h
  refine h.mono ?_
  rintro e w' ⟨⟨z, rfl, -, hz2⟩, hb⟩
  obtain ⟨Vs, ds, e3, e4, -, -, -, -, hzz⟩ := hz2 rfl
  obtain rfl := VL_inj e3
  have hds : ds = lenH 2 Ws := by
    have h := congrArg (fun l : List Int => l.map Int.toNat) e4
    simp only [List.map_map] at h
    have e : ∀ l : List Nat, (l.map (Int.toNat ∘ fun (k : Nat) => (k : Int))) = l := fun l => (List.map_congr_left fun x _ => Int.toNat_natCast x).trans (List.map_id _)
    rw [e, e] at h
    exact h.symm
  subst hds
  exact ⟨by rw [hzz]; rfl, hb⟩
set_option maxRecDepth 100000 in
set_option maxHeartbeats 8000000 in
theorem law_limits39 (w : World) (a : Option Addr) (cap : Nat) (L : List Nat) (hc : L.length ≤ cap) (hcm : cap ≤ maxLen) (hz : ∀ x ∈ L, x < 2 ^ 32) (hS : USl w a L) (ha : a = none → L = [] ∧ cap = 0) (q : Int) (wq : (Lit.int .u8 q).wf = true) :
    Calls Try.prog 4 #[.slice a L.length cap, .int .u8 q] w fun e w' => e = .returned (.bool true) ∧ Below w.heap.size w w' := by
  obtain ⟨q, rfl, hq⟩ := u8_nat9 wq
  have HSM := Lib.hid (small39_any w a cap L hc hcm hz hS q hq)
  have HAW := Lib.hid (fun W => awake39_any W)
  have HZ := Lib.hid hz
  clear wq hS ha hz hc hcm
  by_cases hn : L.length < 2 ∨ 6 < L.length
  · go_enter Try.func4, Try.ntmps4
    go_wp2_with fail
    refine HSM.out.mono ?_
    rintro e w1 ⟨he, -, hb⟩
    obtain rfl := he hn
    go_wp2_with fail
    refine (HAW.out _).mono ?_
    rintro e w2 ⟨rfl, hb2⟩
    go_wp2
    go_ret
    exact ⟨rfl, bstep hb hb2⟩
  have h26 : 2 ≤ L.length ∧ L.length ≤ 6 := by omega
  obtain ⟨m, hm⟩ : ∃ m, q % 8 + 1 = m := ⟨_, rfl⟩
  have hm8 : 1 ≤ m ∧ m ≤ 8 := by omega
  obtain ⟨n, hnn⟩ : ∃ n, L.length = n := ⟨_, rfl⟩
  have HNN := Lib.hid hnn
  unfold SmQ at HSM
  rw [hm, hnn] at HSM
  rw [hnn] at h26 ⊢
  clear hn hm hnn hq
  by_cases hfit : n ≤ 2 ^ m
  case neg =>
    rw [decide_eq_false hfit] at HSM
    clear hfit
    go_enter Try.func4, Try.ntmps4
    go_wp2_with fail
    refine HSM.out.mono ?_
    rintro e w1 ⟨-, he, hb⟩
    obtain ⟨g, c, rfl, -⟩ := he h26
    go_wp2_with fail
    refine (HAW.out _).mono ?_
    rintro e w2 ⟨rfl, hb2⟩
    go_wp2
    go_ret
    exact ⟨rfl, bstep hb hb2⟩
  case pos =>
    rw [decide_eq_true hfit] at HSM
    have HLZ := Lib.hid (show ∀ z ∈ L, z < 2 ^ 64 from fun z h => Nat.lt_of_lt_of_le (HZ.out z h) (by decide))
    have hfit2 : n ≤ 2 ^ (m + 1) := by rw [Nat.pow_succ]; omega
    have hP1 := lim_mono (Ws := L) (m := m) (by rw [HNN.out]; exact hfit)
    have hP2 := lim_huf (Ws := L) (m := m) (by rw [HNN.out]; omega) (by rw [HNN.out]; exact hfit)
    have HP3 := Lib.hid (fun (h : n ≤ m + 1) => lim_free (Ws := L) (m := m) (by rw [HNN.out]; omega) (by rw [HNN.out]; exact hfit) (by rw [HNN.out]; exact h))
    have HP4 := Lib.hid (fun (h : n = 2 ^ m) => lim_full (Ws := L) (m := m) (by rw [HNN.out]; exact h))
    rw [← hufC_csP] at hP2 HP3
    have hB1 := limC_lt (Ws := L) (k := m) (by rw [HNN.out]; omega) (by omega) (by rw [HNN.out]; exact hfit) HLZ.out
    have hB2 := limC_lt (Ws := L) (k := m + 1) (by rw [HNN.out]; omega) (by omega) (by rw [HNN.out]; exact hfit2) HLZ.out
    have HM8 := Lib.hid hm8
    have H26 := Lib.hid h26
    have HFT := Lib.hid (And.intro hfit hfit2)
    have hn6 : n ≤ 6 := h26.2
    have hm8' : m ≤ 8 := hm8.2
    obtain ⟨m1, hm1⟩ : ∃ x, m + 1 = x := ⟨_, rfl⟩
    have hm1I : (m : Int) + 1 = (m1 : Int) := by omega
    have HM1 := Lib.hid hm1
    have hm19 : m1 ≤ 9 := by omega
    rw [hm1] at hP1 hB2 hfit2 HFT
    go_enter Try.func4, Try.ntmps4
    go_wp2_with fail
    refine HSM.out.mono ?_
    rintro e w1 ⟨-, he, hb⟩
    obtain ⟨g, c, rfl, hc1, hc2, hsl⟩ := he h26
    have HB1 := Lib.hid hb
    have HX1 := Lib.hid (fun W (h : Below w1.heap.size w1 W) => cos39_ok (g := g) (c := c) (m := m) HNN.out H26.out.1 (by omega) hc1 hc2 HLZ.out HM8.out.1 (by omega) HFT.out.1 W (hsl.below h))
    have HX2 := Lib.hid (fun W (h : Below w1.heap.size w1 W) => cos39_ok (g := g) (c := c) (m := m1) HNN.out H26.out.1 (by omega) hc1 hc2 HLZ.out (by omega) (by omega) HFT.out.2 W (hsl.below h))
    have HX3 := Lib.hid (fun W (h : Below w1.heap.size w1 W) => pen39_ok (g := g) (c := c) (m := m) HNN.out H26.out.1 (by omega) hc1 hc2 HLZ.out HM8.out.1 (by omega) HFT.out.1 W (hsl.below h))
    have HX4 := Lib.hid (fun W (h : Below w1.heap.size w1 W) => huf39_ok (g := g) (c := c) HNN.out H26.out.1 (by omega) hc1 hc2 HLZ.out W (hsl.below h))
    have HX5 := Lib.hid (fun v W (h : Below w1.heap.size w1 W) hv => hco39_ok (g := g) (c := c) HNN.out H26.out.1 (by omega) hc1 hc2 HLZ.out v W (hsl.below h) hv)
    have HX6 := Lib.hid (fun W (h : Below w1.heap.size w1 W) => len39_ok (g := g) (c := c) (m := m) HNN.out H26.out.1 (by omega) hc1 hc2 HLZ.out HM8.out.1 (by omega) HFT.out.1 W (hsl.below h))
    have hll := limL_len L m
    rw [HNN.out] at hll
    obtain ⟨ca, hca⟩ : ∃ x, limC L m = x := ⟨_, rfl⟩
    obtain ⟨cb, hcb⟩ : ∃ x, limC L m1 = x := ⟨_, rfl⟩
    obtain ⟨ch, hch⟩ : ∃ x, hufC L = x := ⟨_, rfl⟩
    obtain ⟨lm, hlm⟩ : ∃ x, limL L m = x := ⟨_, rfl⟩
    rw [hca] at hP1 hP2 hB1 HX1 HX3 HP3
    rw [hcb] at hP1 hB2 HX2
    rw [hch] at hP2 HX3 HX5 HP3
    rw [hlm] at HX6 HP4 hll
    obtain ⟨pp, hpp⟩ : ∃ x, ca - ch = x := ⟨_, rfl⟩
    rw [hpp] at HX3
    have hppI : (ca : Int) - (ch : Int) = (pp : Int) := by omega
    have hB3 : ch < 2 ^ 82 := by omega
    have hB4 : pp < 2 ^ 82 := by omega
    have HC1 := Lib.hid (fun Y => cCmpN (x := cb) (d := ca) 82 82 hB2 hB1 (by decide) (by decide) Y)
    have HC2 := Lib.hid (fun Y => cSub (VN_rp (N := 82) hB1 (by decide)) (VN_rp (N := 82) hB3 (by decide)) Y)
    have HC3 := Lib.hid (fun Y => cCmpN (x := pp) (d := 0) 82 82 hB4 (by decide) (by decide) (by decide) Y)
    rw [hppI, Int.natAbs_natCast, show sgn (pp : Int) = false from decide_eq_false (by omega)] at HC2
    rw [mg_zero] at HC3
    obtain ⟨r1, hr1⟩ : ∃ x, cmpI (cb : Int) (ca : Int) = x := ⟨_, rfl⟩
    obtain ⟨r2, hr2⟩ : ∃ x, cmpI (pp : Int) ((0 : Nat) : Int) = x := ⟨_, rfl⟩
    rw [hr1] at HC1
    rw [hr2] at HC3
    have hr1B : decide (0 < r1) = false := by
      rw [← hr1]
      have := cmpI_gt0 (cb : Int) (ca : Int)
      rw [this]
      simp
      omega
    have hr2B : decide (r2 < 0) = false := by
      rw [← hr2]
      have := cmpI_lt0 (pp : Int) ((0 : Nat) : Int)
      rw [this]
      simp
    have heq : eqI false (mg pp) false (mg pp) = true := eqI_iff.2 ⟨rfl, rfl⟩
    have HPZ := Lib.hid (show n ≤ m + 1 → pp = 0 from fun h => by have := HP3.out h; omega)
    have HLL := Lib.hid hll
    clear he hb hsl hc1 hc2 hP1 hP2 hB1 hB2 hB3 hB4 hr1 hr2 hca hcb hch hlm hpp hppI hll hfit hfit2 hm1 HSM HP3 h26 hm8
    go_wp2_with fail
    refine (HX1.out _ (Below.refl _ _)).mono ?_
    rintro e w2 ⟨rfl, hb2⟩
    have hal : Below w2.heap.size w2 (w2.alloc (.cells #[.bool false, .string (mg ca)] 29)) := (Below.refl _ _).alloc (Nat.le_refl _) _
    have HD2 := Lib.hid (hb2.trans (hal.mono hb2.size))
    have HP2 := Lib.hid (BC.new w2 w2.heap.size #[.bool false, .string (mg ca)] 29 rfl)
    clear hb2 hal HX1
    go_wp2_with fail
    obtain ⟨b8, hb8⟩ : ∃ b, w2.heap.size = b := ⟨_, rfl⟩
    rw [hb8] at HP2 ⊢
    obtain ⟨Y2, hY2⟩ : ∃ X, w2.alloc (.cells #[.bool false, .string (mg ca)] 29) = X := ⟨_, rfl⟩
    rw [hY2] at HD2 HP2 ⊢
    clear hY2 hb8
    refine (HX2.out _ HD2.out).mono ?_
    rintro e w3 ⟨rfl, hb3⟩
    have hal : Below w3.heap.size w3 (w3.alloc (.cells #[.bool false, .string (mg cb)] 29)) := (Below.refl _ _).alloc (Nat.le_refl _) _
    have hst := hb3.trans (hal.mono hb3.size)
    have HD3 := Lib.hid (bstep HD2.out hst)
    have HP3 := Lib.hid (HP2.out.below hst)
    have HQ3 := Lib.hid (BC.new w3 w3.heap.size #[.bool false, .string (mg cb)] 29 rfl)
    clear hb3 hal hst HX2 HD2 HP2
    go_wp2_with fail
    obtain ⟨b10, hb10⟩ : ∃ b, w3.heap.size = b := ⟨_, rfl⟩
    rw [hb10] at HQ3 ⊢
    obtain ⟨Y3, hY3⟩ : ∃ X, w3.alloc (.cells #[.bool false, .string (mg cb)] 29) = X := ⟨_, rfl⟩
    rw [hY3] at HD3 HP3 HQ3 ⊢
    clear hY3 hb10
    refine (HX3.out _ HD3.out).mono ?_
    rintro e w4 ⟨rfl, hb4⟩
    have hal : Below w4.heap.size w4 (w4.alloc (.cells #[.bool false, .string (mg pp)] 29)) := (Below.refl _ _).alloc (Nat.le_refl _) _
    have hst := hb4.trans (hal.mono hb4.size)
    have HD4 := Lib.hid (bstep HD3.out hst)
    have HP4' := Lib.hid (HP3.out.below hst)
    have HQ4 := Lib.hid (HQ3.out.below hst)
    have HR4 := Lib.hid (BC.new w4 w4.heap.size #[.bool false, .string (mg pp)] 29 rfl)
    clear hb4 hal hst HX3 HD3 HP3 HQ3
    go_wp2_with fail
    obtain ⟨b12, hb12⟩ : ∃ b, w4.heap.size = b := ⟨_, rfl⟩
    rw [hb12] at HR4 ⊢
    obtain ⟨Y4, hY4⟩ : ∃ X, w4.alloc (.cells #[.bool false, .string (mg pp)] 29) = X := ⟨_, rfl⟩
    rw [hY4] at HD4 HP4' HQ4 HR4 ⊢
    clear hY4 hb12
    refine (HX4.out _ HD4.out).mono ?_
    rintro e w5 ⟨v, rfl, hv, hb5⟩
    have HD5 := Lib.hid (bstep HD4.out hb5)
    have HP5 := Lib.hid (HP4'.out.below hb5)
    have HQ5 := Lib.hid (HQ4.out.below hb5)
    have HR5 := Lib.hid (HR4.out.below hb5)
    have HXV := Lib.hid (HX5.out v w5 HD5.out hv)
    clear hb5 hv HX4 HX5 HD4 HP4' HQ4 HR4
    go_wp2_with fail
    refine HXV.out.mono ?_
    rintro e w6 ⟨rfl, hb6⟩
    have hal : Below w6.heap.size w6 (w6.alloc (.cells #[.bool false, .string (mg ch)] 29)) := (Below.refl _ _).alloc (Nat.le_refl _) _
    have hst := hb6.trans (hal.mono hb6.size)
    have HD6 := Lib.hid (bstep HD5.out hst)
    have HP6 := Lib.hid (HP5.out.below hst)
    have HQ6 := Lib.hid (HQ5.out.below hst)
    have HR6 := Lib.hid (HR5.out.below hst)
    have HT6 := Lib.hid (BC.new w6 w6.heap.size #[.bool false, .string (mg ch)] 29 rfl)
    clear hb6 hal hst HXV HD5 HP5 HQ5 HR5
    go_wp2_with fail
    obtain ⟨b16, hb16⟩ : ∃ b, w6.heap.size = b := ⟨_, rfl⟩
    rw [hb16] at HT6 ⊢
    obtain ⟨Y6, hY6⟩ : ∃ X, w6.alloc (.cells #[.bool false, .string (mg ch)] 29) = X := ⟨_, rfl⟩
    rw [hY6] at HD6 HP6 HQ6 HR6 HT6 ⊢
    clear hY6 hb16
    haveI := cls_some Y6
    have f0 : ∀ u : Cl Y6, u.x.cell? ⟨b8, 0, none⟩ = some (.bool false) := fun u => (HP6.out.below u.h).at 0 _ rfl
    have f1 : ∀ u : Cl Y6, u.x.cell? ⟨b8, 1, none⟩ = some (.string (mg ca)) := fun u => (HP6.out.below u.h).at 1 _ rfl
    have f2 : ∀ u : Cl Y6, u.x.cell? ⟨b10, 0, none⟩ = some (.bool false) := fun u => (HQ6.out.below u.h).at 0 _ rfl
    have f3 : ∀ u : Cl Y6, u.x.cell? ⟨b10, 1, none⟩ = some (.string (mg cb)) := fun u => (HQ6.out.below u.h).at 1 _ rfl
    have f4 : ∀ u : Cl Y6, u.x.cell? ⟨b12, 0, none⟩ = some (.bool false) := fun u => (HR6.out.below u.h).at 0 _ rfl
    have f5 : ∀ u : Cl Y6, u.x.cell? ⟨b12, 1, none⟩ = some (.string (mg pp)) := fun u => (HR6.out.below u.h).at 1 _ rfl
    have f6 : ∀ u : Cl Y6, u.x.cell? ⟨b16, 0, none⟩ = some (.bool false) := fun u => (HT6.out.below u.h).at 0 _ rfl
    have f7 : ∀ u : Cl Y6, u.x.cell? ⟨b16, 1, none⟩ = some (.string (mg ch)) := fun u => (HT6.out.below u.h).at 1 _ rfl
    refine wp_region_cls (by kernel_rfl) ?_
    iterate 10 (go_big_quiet_step (fail))
    go_big_quiet_step ((go_at_call 20; exact quiet_cls HC1.out _))
    iterate 6 (go_big_quiet_step (fail))
    go_big_quiet_step ((go_at_call 21; exact quiet_cls HC2.out _))
    iterate 5 (go_big_quiet_step (fail))
    go_big_quiet_step ((go_at_call 20; exact quiet_cls HC3.out _))
    iterate 2 (go_big_quiet_step (fail))
    refine wpQuiet_nil ?_
    intro w7 hw7
    obtain ⟨u7, rfl⟩ := hw7
    have HD7 := Lib.hid (bstep HD6.out u7.h)
    have hr7 := HR6.out.below u7.h
    have HR7 := Lib.hid hr7
    obtain ⟨X7, hX7⟩ : ∃ X, u7.x = X := ⟨_, rfl⟩
    rw [hX7] at HD7 hr7 HR7 ⊢
    have p0 := hr7.at 0 _ rfl
    have p1 := hr7.at 1 _ rfl
    clear f0 f1 f2 f3 f4 f5 f6 f7 hr7
    have HX7 := Lib.hid (HX6.out X7 HD7.out)
    have HBZ := Lib.hid (bstep HB1.out HD7.out)
    obtain ⟨k1, hk1⟩ : ∃ x, n - 1 = x := ⟨_, rfl⟩
    have hk1I : (n : Int) - 1 = (k1 : Int) := by have := H26.out; omega
    have hcs : m = 1 ∨ m = 2 ∨ m = 3 ∨ m = 4 ∨ m = 5 ∨ m = 6 ∨ m = 7 ∨ m = 8 := by have := HM8.out; omega
    have HCS := Lib.hid hcs
    have H0N := Lib.hid (show 0 < n from by have := H26.out; omega)
    clear hcs
    by_cases hmn : n ≤ m + 1
    case' pos =>
      have h0 := HPZ.out hmn
      rw [h0, mg_zero] at p1
      have hge : (k1 : Int) ≤ (m : Int) := by omega
      have heq2 : eqI false ⟨#[]⟩ false ⟨#[]⟩ = true := eqI_iff.2 ⟨rfl, rfl⟩
      clear hk1 hmn h0
      go_upto_region 13 with fail
      clear p0 p1 heq2 hge
    case' neg =>
      have hge : ¬ (k1 : Int) ≤ (m : Int) := by omega
      clear hk1 hmn
      go_upto_region 13 with fail
      clear p0 p1 hge
    all_goals
      clear hk1I heq hr1B hr2B hm1I hm19 hm8'
      rcases HCS.out with rfl | rfl | rfl | rfl | rfl | rfl | rfl | rfl
      · by_cases hnc : n = 2
        · have HFL := Lib.hid (HP4.out (by rw [hnc]))
          have HMN := Lib.hid (fun q W (h : BC W q (natV lm)) => min39_any (g := q) (n := n) (m := 1) HLL.out H0N.out (by omega) HFL.out W h)
          subst hnc
          go_wp2_with fail
          refine HX7.out.mono ?_
          rintro e w8 ⟨qq, rfl, hqq, hb8⟩
          have HM2 := Lib.hid (HMN.out qq w8 hqq)
          have HBY := Lib.hid (bstep HBZ.out hb8)
          clear hqq hb8
          go_wp2_with fail
          refine HM2.out.mono ?_
          rintro e w9 ⟨rfl, ew⟩
          obtain rfl := ew
          go_wp2_with fail
          refine (HAW.out _).mono ?_
          rintro e w10 ⟨rfl, hb10⟩
          go_wp2
          go_ret
          exact ⟨rfl, bstep HBY.out hb10⟩
        · have hcB : ((2 : Int) == (n : Int)) = false := by rw [beq_eq_false_iff_ne]; omega
          have hcN : ¬ (2 : Int) = (n : Int) := by omega
          go_wp2_with fail
          refine (HAW.out _).mono ?_
          rintro e w9 ⟨rfl, hb9⟩
          go_wp2
          go_ret
          exact ⟨rfl, bstep HBZ.out hb9⟩
      · by_cases hnc : n = 4
        · have HFL := Lib.hid (HP4.out (by rw [hnc]))
          have HMN := Lib.hid (fun q W (h : BC W q (natV lm)) => min39_any (g := q) (n := n) (m := 2) HLL.out H0N.out (by omega) HFL.out W h)
          subst hnc
          go_wp2_with fail
          refine HX7.out.mono ?_
          rintro e w8 ⟨qq, rfl, hqq, hb8⟩
          have HM2 := Lib.hid (HMN.out qq w8 hqq)
          have HBY := Lib.hid (bstep HBZ.out hb8)
          clear hqq hb8
          go_wp2_with fail
          refine HM2.out.mono ?_
          rintro e w9 ⟨rfl, ew⟩
          obtain rfl := ew
          go_wp2_with fail
          refine (HAW.out _).mono ?_
          rintro e w10 ⟨rfl, hb10⟩
          go_wp2
          go_ret
          exact ⟨rfl, bstep HBY.out hb10⟩
        · have hcB : ((4 : Int) == (n : Int)) = false := by rw [beq_eq_false_iff_ne]; omega
          have hcN : ¬ (4 : Int) = (n : Int) := by omega
          go_wp2_with fail
          refine (HAW.out _).mono ?_
          rintro e w9 ⟨rfl, hb9⟩
          go_wp2
          go_ret
          exact ⟨rfl, bstep HBZ.out hb9⟩
      · have hnc : n < 8 := by omega
        have hcB : ((8 : Int) == (n : Int)) = false := by rw [beq_eq_false_iff_ne]; omega
        have hcN : ¬ (8 : Int) = (n : Int) := by omega
        go_wp2_with fail
        refine (HAW.out _).mono ?_
        rintro e w9 ⟨rfl, hb9⟩
        go_wp2
        go_ret
        exact ⟨rfl, bstep HBZ.out hb9⟩
      · have hnc : n < 16 := by omega
        have hcB : ((16 : Int) == (n : Int)) = false := by rw [beq_eq_false_iff_ne]; omega
        have hcN : ¬ (16 : Int) = (n : Int) := by omega
        go_wp2_with fail
        refine (HAW.out _).mono ?_
        rintro e w9 ⟨rfl, hb9⟩
        go_wp2
        go_ret
        exact ⟨rfl, bstep HBZ.out hb9⟩
      · have hnc : n < 32 := by omega
        have hcB : ((32 : Int) == (n : Int)) = false := by rw [beq_eq_false_iff_ne]; omega
        have hcN : ¬ (32 : Int) = (n : Int) := by omega
        go_wp2_with fail
        refine (HAW.out _).mono ?_
        rintro e w9 ⟨rfl, hb9⟩
        go_wp2
        go_ret
        exact ⟨rfl, bstep HBZ.out hb9⟩
      · have hnc : n < 64 := by omega
        have hcB : ((64 : Int) == (n : Int)) = false := by rw [beq_eq_false_iff_ne]; omega
        have hcN : ¬ (64 : Int) = (n : Int) := by omega
        go_wp2_with fail
        refine (HAW.out _).mono ?_
        rintro e w9 ⟨rfl, hb9⟩
        go_wp2
        go_ret
        exact ⟨rfl, bstep HBZ.out hb9⟩
      · have hnc : n < 128 := by omega
        have hcB : ((128 : Int) == (n : Int)) = false := by rw [beq_eq_false_iff_ne]; omega
        have hcN : ¬ (128 : Int) = (n : Int) := by omega
        go_wp2_with fail
        refine (HAW.out _).mono ?_
        rintro e w9 ⟨rfl, hb9⟩
        go_wp2
        go_ret
        exact ⟨rfl, bstep HBZ.out hb9⟩
      · have hnc : n < 256 := by omega
        have hcB : ((256 : Int) == (n : Int)) = false := by rw [beq_eq_false_iff_ne]; omega
        have hcN : ¬ (256 : Int) = (n : Int) := by omega
        go_wp2_with fail
        refine (HAW.out _).mono ?_
        rintro e w9 ⟨rfl, hb9⟩
        go_wp2
        go_ret
        exact ⟨rfl, bstep HBZ.out hb9⟩
end Go.Proofs.Gv
