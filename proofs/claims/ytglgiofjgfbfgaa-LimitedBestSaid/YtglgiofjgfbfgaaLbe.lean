/- The law LimitedBest. -/
import Derived.Test.YtglgiofjgfbfgaaLbkP
set_option linter.unusedSimpArgs false
set_option linter.unusedVariables false
namespace Go.Proofs.Gv
open Go Go.RowKit Go.Maps

set_option maxRecDepth 100000 in
set_option maxHeartbeats 8000000 in
theorem law_best39 (w : World) (a : Option Addr) (cap : Nat) (L : List Nat) (hc : L.length ≤ cap) (hcm : cap ≤ maxLen) (hz : ∀ x ∈ L, x < 2 ^ 32) (hS : USl w a L) (ha : a = none → L = [] ∧ cap = 0) (q : Int) (wq : (Lit.int .u8 q).wf = true)
    (a2 : Option Addr) (cap2 : Nat) (L2 : List Nat) (hc2 : L2.length ≤ cap2) (hcm2 : cap2 ≤ maxLen) (hz2 : ∀ x ∈ L2, x < 2 ^ 8) (hS2 : BSl w a2 L2) (ha2 : a2 = none → L2 = [] ∧ cap2 = 0) :
    Calls Try.prog 6 #[.slice a L.length cap, .int .u8 q, .slice a2 L2.length cap2] w fun e w' => e = .returned (.bool true) ∧ Below w.heap.size w w' := by
  obtain ⟨q, rfl, hq⟩ := u8_nat9 wq
  have HSM := Lib.hid (small39_any w a cap L hc hcm hz hS q hq)
  have HOT := Lib.hid (fun W n m h1 h2 h3 (hb : Below w.heap.size w W) => others39_any W a2 cap2 L2 hc2 hcm2 hz2 (hS2.below hb) n m h1 h2 h3)
  have HAW := Lib.hid (fun W => awake39_any W)
  have HZ := Lib.hid hz
  obtain ⟨b2, hb2⟩ : ∃ x, L2.length = x := ⟨_, rfl⟩
  rw [hb2] at HOT ⊢
  clear wq hS ha hz hc hcm hc2 hcm2 hz2 hS2 ha2 hb2
  by_cases hn : L.length < 2 ∨ 6 < L.length
  · go_enter Try.func6, Try.ntmps6
    go_wp2_with fail
    refine HSM.out.mono ?_
    rintro e w1 ⟨he, -, hb⟩
    obtain rfl := he hn
    go_wp2_with fail
    refine (HAW.out _).mono ?_
    rintro e w2 ⟨rfl, hb2⟩
    go_wp2
    go_ret
    exact ⟨rfl, bstep hb hb2⟩
  have h26 : 2 ≤ L.length ∧ L.length ≤ 6 := by omega
  obtain ⟨m, hm⟩ : ∃ m, q % 8 + 1 = m := ⟨_, rfl⟩
  have hm8 : 1 ≤ m ∧ m ≤ 8 := by omega
  obtain ⟨n, hnn⟩ : ∃ n, L.length = n := ⟨_, rfl⟩
  have HNN := Lib.hid hnn
  unfold SmQ at HSM
  rw [hm, hnn] at HSM
  rw [hnn] at h26 ⊢
  clear hn hm hnn hq
  by_cases hfit : n ≤ 2 ^ m
  case neg =>
    rw [decide_eq_false hfit] at HSM
    clear hfit
    go_enter Try.func6, Try.ntmps6
    go_wp2_with fail
    refine HSM.out.mono ?_
    rintro e w1 ⟨-, he, hb⟩
    obtain ⟨g, c, rfl, -⟩ := he h26
    go_wp2_with fail
    refine (HAW.out _).mono ?_
    rintro e w2 ⟨rfl, hb2⟩
    go_wp2
    go_ret
    exact ⟨rfl, bstep hb hb2⟩
  case pos =>
    rw [decide_eq_true hfit] at HSM
    have HLZ := Lib.hid (show ∀ z ∈ L, z < 2 ^ 64 from fun z h => Nat.lt_of_lt_of_le (HZ.out z h) (by decide))
    have hlo := lim_pos (Ws := L) (m := m) (by rw [HNN.out]; exact h26.1) (by rw [HNN.out]; exact hfit)
    obtain ⟨hcs, hkr, hhi⟩ := lim_sound (Ws := L) (m := m) (by rw [HNN.out]; exact hfit)
    have hbest := lim_best (Ws := L) (l := othL n m L2) (m := m) (by rw [HNN.out]; exact hfit) (by rw [othL_len, HNN.out])
    have hob := othL_bd (n := n) hm8.1 L2
    have hbest2 := fun h => hbest (fun d hd => (hob d hd).2) h
    rw [← kr32 (by omega) hhi] at hkr
    rw [← kr32 (by omega) (fun d hd => (hob d hd).2)] at hbest2
    have hB1 := limC_lt (Ws := L) (k := m) (by rw [HNN.out]; omega) (by omega) (by rw [HNN.out]; exact hfit) HLZ.out
    have hB2 := csP_bd (Ws := L) (ds := othL n m L2) (by rw [othL_len, HNN.out]) HLZ.out (fun d hd => by have := (hob d hd).2; omega) (by rw [HNN.out]; omega)
    have hll := limL_len L m
    rw [HNN.out] at hll
    have hol := othL_len n m L2
    clear hbest
    have HOB := Lib.hid hob
    have HLB := Lib.hid (show ∀ d ∈ limL L m, 1 ≤ d ∧ d ≤ m from fun d hd => ⟨hlo d hd, hhi d hd⟩)
    have hn6 : n ≤ 6 := h26.2
    have hm8' : m ≤ 8 := hm8.2
    have HM8 := Lib.hid hm8
    have H26 := Lib.hid h26
    have HFT := Lib.hid hfit
    go_enter Try.func6, Try.ntmps6
    go_wp2_with fail
    refine HSM.out.mono ?_
    rintro e w1 ⟨-, he, hb⟩
    obtain ⟨g, c, rfl, hc1, hc2, hsl⟩ := he h26
    have HB1 := Lib.hid hb
    have HX1 := Lib.hid (fun W (h : Below w1.heap.size w1 W) => len39_ok (g := g) (c := c) (m := m) HNN.out H26.out.1 (by omega) hc1 hc2 HLZ.out HM8.out.1 (by omega) HFT.out W (hsl.below h))
    have HX2 := Lib.hid (fun W (h : Below w1.heap.size w1 W) => cos39_ok (g := g) (c := c) (m := m) HNN.out H26.out.1 (by omega) hc1 hc2 HLZ.out HM8.out.1 (by omega) HFT.out W (hsl.below h))
    have HX3 := Lib.hid (fun q W (h : Below w1.heap.size w1 W) h2 => anyC39_ok (g := g) (c := c) (q := q) (ds := limL L m) HNN.out H26.out.1 (by omega) hc1 hc2 HLZ.out hll (fun d hd => by have := HLB.out d hd; omega) W (hsl.below h) h2)
    have HX4 := Lib.hid (fun q W (h : Below w1.heap.size w1 W) h2 => anyC39_ok (g := g) (c := c) (q := q) (ds := othL n m L2) HNN.out H26.out.1 (by omega) hc1 hc2 HLZ.out hol (fun d hd => by have := HOB.out d hd; omega) W (hsl.below h) h2)
    have HMI := Lib.hid (fun q W h => minB_any (g := q) (c := n) (m := 1) (ds := limL L m) hll (by have := H26.out; omega) (by omega) (fun d hd => (HLB.out d hd).1) W h)
    have HMA := Lib.hid (fun q W h => maxB_any (g := q) (c := n) (m := m) (ds := limL L m) hll (by have := H26.out; omega) (by omega) (fun d hd => (HLB.out d hd).2) W h)
    have HF1 := Lib.hid (fun q W h => mfits_any (g := q) (c := n) (ds := limL L m) hll (by omega) (fun d hd => by have := HLB.out d hd; omega) W h)
    have HF2 := Lib.hid (fun q W h => mfits_any (g := q) (c := n) (ds := othL n m L2) hol (by omega) (fun d hd => by have := HOB.out d hd; omega) W h)
    rw [decide_eq_true hkr] at HF1
    rw [hcs] at HX3
    have HOT1 := Lib.hid (fun W (h : Below w1.heap.size w1 W) => HOT.out W n m (by omega) HM8.out.1 (by omega) (bstep HB1.out h))
    obtain ⟨ca, hca⟩ : ∃ x, limC L m = x := ⟨_, rfl⟩
    obtain ⟨cb, hcb⟩ : ∃ x, csP (L.zip (othL n m L2)) = x := ⟨_, rfl⟩
    obtain ⟨lm, hlm⟩ : ∃ x, limL L m = x := ⟨_, rfl⟩
    obtain ⟨lo, hloo⟩ : ∃ x, othL n m L2 = x := ⟨_, rfl⟩
    rw [hca] at HX2 HX3 hB1 hbest2
    rw [hcb] at HX4 hB2 hbest2
    rw [hlm] at HX1 HX3 HMI HMA HF1
    rw [hloo] at HX4 HOT1 HF2 hbest2
    have HC1 := Lib.hid (fun Y => cCmpN (x := cb) (d := ca) 136 82 hB2 hB1 (by decide) (by decide) Y)
    obtain ⟨r1, hr1⟩ : ∃ x, cmpI (cb : Int) (ca : Int) = x := ⟨_, rfl⟩
    rw [hr1] at HC1
    have heq : eqI false (mg ca) false (mg ca) = true := eqI_iff.2 ⟨rfl, rfl⟩
    have HRR := Lib.hid (show krL 32 lo ≤ 2 ^ 32 → (0 : Int) ≤ r1 from fun h => by
      have h1 := hbest2 h
      rw [← hr1]
      rcases Nat.lt_or_eq_of_le h1 with h2 | h2
      · rw [show cmpI (cb : Int) (ca : Int) = 1 from cmpI_gt (by omega)]; decide
      · rw [h2]; unfold cmpI; simp)
    clear he hb hsl hc1 hc2 hB1 hB2 hr1 hca hcb hlm hloo hll hol hfit hkr hcs hlo hhi hob hbest2 HSM HOT h26 hm8 HZ HLZ HLB HOB HFT
    go_wp2_with fail
    refine (HX1.out _ (Below.refl _ _)).mono ?_
    rintro e w2 ⟨qq, rfl, hqq, hb2⟩
    have HQ2 := Lib.hid hqq
    have HD2 := Lib.hid hb2
    clear hqq hb2 HX1
    go_wp2_with fail
    refine (HX2.out _ HD2.out).mono ?_
    rintro e w3 ⟨rfl, hb3⟩
    have hal : Below w3.heap.size w3 (w3.alloc (.cells #[.bool false, .string (mg ca)] 29)) := (Below.refl _ _).alloc (Nat.le_refl _) _
    have hst := hb3.trans (hal.mono hb3.size)
    have HD3 := Lib.hid (bstep HD2.out hst)
    have HQ3 := Lib.hid (HQ2.out.below hst)
    have HP3 := Lib.hid (BC.new w3 w3.heap.size #[.bool false, .string (mg ca)] 29 rfl)
    clear hb3 hal hst HX2 HD2 HQ2
    go_upto_region 6 with fail
    obtain ⟨b12, hb12⟩ : ∃ b, w3.heap.size = b := ⟨_, rfl⟩
    rw [hb12] at HP3 ⊢
    obtain ⟨Y3, hY3⟩ : ∃ X, w3.alloc (.cells #[.bool false, .string (mg ca)] 29) = X := ⟨_, rfl⟩
    rw [hY3] at HD3 HQ3 HP3 ⊢
    clear hY3 hb12
    obtain ⟨hmi, hma⟩ := And.intro (HMI.out qq Y3 HQ3.out) (HMA.out qq Y3 HQ3.out)
    have HMI3 := Lib.hid hmi
    have HMA3 := Lib.hid hma
    clear hmi hma HMI HMA
    go_wp2_with fail
    refine HMI3.out.mono ?_
    rintro e w4 ⟨⟨x, rfl, hx⟩, ew⟩
    obtain rfl := ew
    have hxB : decide (x < 1) = false := by simp; omega
    go_wp2_with fail
    refine HMA3.out.mono ?_
    rintro e w5 ⟨⟨y, rfl, hy⟩, ew⟩
    obtain rfl := ew
    have hyB : decide ((m : Int) < y) = false := by simp; omega
    go_wp2_with fail
    refine (HF1.out qq _ HQ3.out).mono ?_
    rintro e w6 ⟨rfl, hb6⟩
    have HD6 := Lib.hid (bstep HD3.out hb6)
    have HQ6 := Lib.hid (HQ3.out.below hb6)
    have HP6 := Lib.hid (HP3.out.below hb6)
    clear hb6 hxB hyB hx hy HF1 HD3 HQ3 HP3 HMI3 HMA3
    go_wp2_with fail
    refine (HX3.out qq _ HD6.out HQ6.out).mono ?_
    rintro e w7 ⟨rfl, hb7⟩
    have hal : Below w7.heap.size w7 (w7.alloc (.cells #[.bool false, .string (mg ca)] 29)) := (Below.refl _ _).alloc (Nat.le_refl _) _
    have hst := hb7.trans (hal.mono hb7.size)
    have HD7 := Lib.hid (bstep HD6.out hst)
    have HP7 := Lib.hid (HP6.out.below hst)
    have HR7 := Lib.hid (BC.new w7 w7.heap.size #[.bool false, .string (mg ca)] 29 rfl)
    clear hb7 hal hst HX3 HD6 HQ6 HP6
    go_upto_region 10 with fail
    obtain ⟨b16, hb16⟩ : ∃ b, w7.heap.size = b := ⟨_, rfl⟩
    rw [hb16] at HR7 ⊢
    obtain ⟨Y7, hY7⟩ : ∃ X, w7.alloc (.cells #[.bool false, .string (mg ca)] 29) = X := ⟨_, rfl⟩
    rw [hY7] at HD7 HP7 HR7 ⊢
    clear hY7 hb16
    have x0 := HP7.out.at 0 _ rfl
    have x1 := HP7.out.at 1 _ rfl
    have x2 := HR7.out.at 0 _ rfl
    have x3 := HR7.out.at 1 _ rfl
    go_wp2_with fail
    clear x0 x1 x2 x3
    refine (HOT1.out _ HD7.out).mono ?_
    rintro e w8 ⟨qo, rfl, hqo, hb8⟩
    have HD8 := Lib.hid (bstep HD7.out hb8)
    have HP8 := Lib.hid (HP7.out.below hb8)
    have HO8 := Lib.hid hqo
    clear hqo hb8 HD7 HP7 HR7 HOT1
    go_wp2_with fail
    refine (HF2.out qo _ HO8.out).mono ?_
    rintro e w9 ⟨rfl, hb9⟩
    have HD9 := Lib.hid (bstep HD8.out hb9)
    have HP9 := Lib.hid (HP8.out.below hb9)
    have HO9 := Lib.hid (HO8.out.below hb9)
    clear hb9 HF2 HD8 HP8 HO8
    go_wp2_with fail
    refine (HX4.out qo _ HD9.out HO9.out).mono ?_
    rintro e w10 ⟨rfl, hb10⟩
    have hal : Below w10.heap.size w10 (w10.alloc (.cells #[.bool false, .string (mg cb)] 29)) := (Below.refl _ _).alloc (Nat.le_refl _) _
    have hst := hb10.trans (hal.mono hb10.size)
    have HDA := Lib.hid (bstep HD9.out hst)
    have HPA := Lib.hid (HP9.out.below hst)
    have HRA := Lib.hid (BC.new w10 w10.heap.size #[.bool false, .string (mg cb)] 29 rfl)
    clear hb10 hal hst HX4 HD9 HP9 HO9
    go_upto_region 15 with fail
    obtain ⟨b21, hb21⟩ : ∃ b, w10.heap.size = b := ⟨_, rfl⟩
    rw [hb21] at HRA ⊢
    obtain ⟨YA, hYA⟩ : ∃ X, w10.alloc (.cells #[.bool false, .string (mg cb)] 29) = X := ⟨_, rfl⟩
    rw [hYA] at HDA HPA HRA ⊢
    clear hYA hb21
    have HBZ := Lib.hid (bstep HB1.out HDA.out)
    have x0 := HPA.out.at 0 _ rfl
    have x1 := HPA.out.at 1 _ rfl
    have x2 := HRA.out.at 0 _ rfl
    have x3 := HRA.out.at 1 _ rfl
    by_cases hft : krL 32 lo ≤ 2 ^ 32
    · rw [decide_eq_true hft]
      have hr0 := HRR.out hft
      clear hft
      go_wp2_with fail
      refine (HC1.out _).mono ?_
      rintro e w11 ⟨rfl, hb11⟩
      go_wp2_with fail
      refine (HAW.out _).mono ?_
      rintro e w12 ⟨rfl, hb12⟩
      go_wp2
      go_ret
      exact ⟨rfl, bstep HBZ.out (bstep hb11 hb12)⟩
    · rw [decide_eq_false hft]
      clear hft
      go_wp2_with fail
      refine (HAW.out _).mono ?_
      rintro e w12 ⟨rfl, hb12⟩
      go_wp2
      go_ret
      exact ⟨rfl, bstep HBZ.out hb12⟩
end Go.Proofs.Gv
