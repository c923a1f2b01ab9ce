/- The law LimitedProved. -/
import Derived.Test.YtglgiofjgfbfgaaLpq
set_option linter.unusedSimpArgs false
set_option linter.unusedVariables false
namespace Go.Proofs.Gv
open Go Go.RowKit Go.Maps

@[go_sem] theorem run_max3z {P : Program} {w : World} (ts : Array TypeId) (t : TypeId) : (Builtin.max_ ts t #[.int .i64 0, .int .i64 0, .int .i64 0]).run P w = .ok (.int .i64 0) w := by
  first
  | rfl
  | simp [Builtin.max_, go_sem]
set_option maxRecDepth 100000 in
set_option maxHeartbeats 16000000 in
theorem law_proved39 (w : World) (a : Option Addr) (cap : Nat) (L : List Nat) (hc : L.length ≤ cap) (hcm : cap ≤ maxLen) (hz : ∀ x ∈ L, x < 2 ^ 32) (hS : USl w a L) (ha : a = none → L = [] ∧ cap = 0) (q : Int) (wq : (Lit.int .u8 q).wf = true)
    (a2 : Option Addr) (cap2 : Nat) (L2 : List Nat) (hc2 : L2.length ≤ cap2) (hcm2 : cap2 ≤ maxLen) (hz2 : ∀ x ∈ L2, x < 2 ^ 8) (hS2 : BSl w a2 L2) (ha2 : a2 = none → L2 = [] ∧ cap2 = 0)
    (ia : Int) (wia : (Lit.int .u8 ia).wf = true) (ip : Int) (wip : (Lit.int .u8 ip).wf = true) (y : Int) (wy : (Lit.int .i8 y).wf = true) :
    Calls Try.prog 9 #[.slice a L.length cap, .int .u8 q, .slice a2 L2.length cap2, .int .u8 ia, .int .u8 ip, .int .i8 y] w fun e w' => e = .returned (.bool true) ∧ Below w.heap.size w w' := by
  obtain ⟨ia, rfl, hia⟩ := u8_nat9 wia
  obtain ⟨ip, rfl, hip⟩ := u8_nat9 wip
  obtain ⟨hy1, hy2⟩ := i8_int9 wy
  clear wia wip wy
  obtain ⟨q, rfl, hq⟩ := u8_nat9 wq
  have HSM := Lib.hid (small39_any w a cap L hc hcm hz hS q hq)
  have HOT := Lib.hid (fun W n m h1 h2 h3 (hb : Below w.heap.size w W) => others39_any W a2 cap2 L2 hc2 hcm2 hz2 (hS2.below hb) n m h1 h2 h3)
  have HAW := Lib.hid (fun W => awake39_any W)
  have HZ := Lib.hid hz
  obtain ⟨b2, hb2⟩ : ∃ x, L2.length = x := ⟨_, rfl⟩
  rw [hb2] at HOT ⊢
  clear wq hS ha hz hc hcm hc2 hcm2 hz2 hS2 ha2 hb2
  by_cases hn : L.length < 2 ∨ 6 < L.length
  · go_enter Try.func9, Try.ntmps9
    go_wp2_with fail
    refine HSM.out.mono ?_
    rintro e w1 ⟨he, -, hb⟩
    obtain rfl := he hn
    go_wp2_with fail
    refine (HAW.out _).mono ?_
    rintro e w2 ⟨rfl, hb2⟩
    go_wp2
    go_ret
    exact ⟨rfl, bstep hb hb2⟩
  have h26 : 2 ≤ L.length ∧ L.length ≤ 6 := by omega
  obtain ⟨m, hm⟩ : ∃ m, q % 8 + 1 = m := ⟨_, rfl⟩
  have hm8 : 1 ≤ m ∧ m ≤ 8 := by omega
  obtain ⟨n, hnn⟩ : ∃ n, L.length = n := ⟨_, rfl⟩
  have HNN := Lib.hid hnn
  unfold SmQ at HSM
  rw [hm, hnn] at HSM
  rw [hnn] at h26 ⊢
  clear hn hm hnn hq
  by_cases hfit : n ≤ 2 ^ m
  case neg =>
    rw [decide_eq_false hfit] at HSM
    clear hfit
    go_enter Try.func9, Try.ntmps9
    go_wp2_with fail
    refine HSM.out.mono ?_
    rintro e w1 ⟨-, he, hb⟩
    obtain ⟨g, c, rfl, -⟩ := he h26
    go_wp2_with fail
    refine (HAW.out _).mono ?_
    rintro e w2 ⟨rfl, hb2⟩
    go_wp2
    go_ret
    exact ⟨rfl, bstep hb hb2⟩
  case pos =>
    rw [decide_eq_true hfit] at HSM
    have HLZ := Lib.hid (show ∀ z ∈ L, z < 2 ^ 64 from fun z h => Nat.lt_of_lt_of_le (HZ.out z h) (by decide))
    have hlo := lim_pos (Ws := L) (m := m) (by rw [HNN.out]; exact h26.1) (by rw [HNN.out]; exact hfit)
    obtain ⟨hcs, hkr, hhi⟩ := lim_sound (Ws := L) (m := m) (by rw [HNN.out]; exact hfit)
    have hob := othL_bd (n := n) hm8.1 L2
    rw [← kr32 (by omega) hhi] at hkr
    have hll := limL_len L m
    rw [HNN.out] at hll
    have hol := othL_len n m L2
    have HOB := Lib.hid hob
    have HLB := Lib.hid (show ∀ d ∈ limL L m, 1 ≤ d ∧ d ≤ m from fun d hd => ⟨hlo d hd, hhi d hd⟩)
    have hn6 : n ≤ 6 := h26.2
    have hm8' : m ≤ 8 := hm8.2
    have HM8 := Lib.hid hm8
    have H26 := Lib.hid h26
    have HFT := Lib.hid hfit
    have HK0 := Lib.hid (show chk39 L m (tabX L m) (limL L m) = 0 from by
      unfold chk39
      rw [if_neg (fun h => h rfl), if_neg (fun h => h hcs), if_pos hkr])
    have HK1 := Lib.hid (show chk39 L m (tabX L m) (othL n m L2) = if csP (L.zip (othL n m L2)) ≠ limC L m then 23 else if krL 32 (othL n m L2) ≤ 2 ^ 32 then 0 else 23 from by
      unfold chk39
      rw [if_neg (fun h => h rfl)])
    have HK2 := Lib.hid (fun N (h : tabX L m ≠ N) => show chk39 L m N (limL L m) = 23 from by
      unfold chk39
      rw [if_pos h])
    have HCO := Lib.hid (tabX_cost (Ws := L) (m := m) (by rw [HNN.out]; omega) (by rw [HNN.out]; exact hfit))
    have hOS : (owL L).sum < 2 ^ 74 := sum_lt (N := 64) (fun z hz2 => by
      obtain ⟨o, ho, rfl⟩ := List.mem_map.1 hz2
      have := ordL_lt ho
      exact HLZ.out _ (by rw [List.getD_eq_getElem?_getD, List.getElem?_eq_getElem this]; exact List.getElem_mem _)) (by rw [owL_len, HNN.out]; omega)
    have HTL := Lib.hid (fun r k i x (hr : r ≤ 8) (h : tb (owL L) L.length r k i = some x) => show x < 2 ^ 90 from by
      have h1 := tb_le _ _ _ _ _ _ h
      have h2 : r * (owL L).sum ≤ 8 * (owL L).sum := Nat.mul_le_mul_right _ hr
      have : (2 : Nat) ^ 90 = 65536 * 2 ^ 74 := by decide
      omega)
    clear hOS hcs hkr hlo hhi hob
    go_enter Try.func9, Try.ntmps9
    go_wp2_with fail
    refine HSM.out.mono ?_
    rintro e w1 ⟨-, he, hb⟩
    obtain ⟨g, c, rfl, hc1, hc2, hsl⟩ := he h26
    have HB1 := Lib.hid hb
    have HX0 := Lib.hid (fun W (h : Below w1.heap.size w1 W) => tab39_ok (g := g) (c := c) (m := m) HNN.out H26.out.1 (by omega) hc1 hc2 HLZ.out HM8.out.1 (by omega) HFT.out W (hsl.below h))
    have HX1 := Lib.hid (fun W (h : Below w1.heap.size w1 W) => len39_ok (g := g) (c := c) (m := m) HNN.out H26.out.1 (by omega) hc1 hc2 HLZ.out HM8.out.1 (by omega) HFT.out W (hsl.below h))
    have HX2 := Lib.hid (fun W (h : Below w1.heap.size w1 W) => cos39_ok (g := g) (c := c) (m := m) HNN.out H26.out.1 (by omega) hc1 hc2 HLZ.out HM8.out.1 (by omega) HFT.out W (hsl.below h))
    have HX4 := Lib.hid (fun q W (h : Below w1.heap.size w1 W) h2 => anyC39_ok (g := g) (c := c) (q := q) (ds := othL n m L2) HNN.out H26.out.1 (by omega) hc1 hc2 HLZ.out hol (fun d hd => by have := HOB.out d hd; omega) W (hsl.below h) h2)
    have HF2 := Lib.hid (fun q W h => mfits_any (g := q) (c := n) (ds := othL n m L2) hol (by omega) (fun d hd => by have := HOB.out d hd; omega) W h)
    have HC0 := Lib.hid (fun v q W (h : Below w1.heap.size w1 W) hv hr => chk39_ok (g := g) (c := c) (q := q) (ds := limL L m) HNN.out H26.out.1 (by omega) hc1 hc2 HLZ.out HM8.out.1 (by omega) HFT.out hll HLB.out (tabX L m) v W (hsl.below h) hv hr)
    have HC1 := Lib.hid (fun v q W (h : Below w1.heap.size w1 W) hv hr => chk39_ok (g := g) (c := c) (q := q) (ds := othL n m L2) HNN.out H26.out.1 (by omega) hc1 hc2 HLZ.out HM8.out.1 (by omega) HFT.out hol HOB.out (tabX L m) v W (hsl.below h) hv hr)
    have HC2 := Lib.hid (fun N (hN : tabX L m ≠ N) v q W (h : Below w1.heap.size w1 W) hv hr => (chk39_ok (g := g) (c := c) (q := q) (ds := limL L m) HNN.out H26.out.1 (by omega) hc1 hc2 HLZ.out HM8.out.1 (by omega) HFT.out hll HLB.out N v W (hsl.below h) hv hr).mono fun e w' h => (show e = .returned (.int .i64 23) ∧ Below W.heap.size W w' from ⟨by rw [h.1, HK2.out N hN], h.2⟩))
    rw [HK0.out] at HC0
    rw [HK1.out] at HC1
    have HOT1 := Lib.hid (fun W (h : Below w1.heap.size w1 W) => HOT.out W n m (by omega) HM8.out.1 (by omega) (bstep HB1.out h))
    obtain ⟨n1, hn1⟩ : ∃ x, n + 1 = x := ⟨_, rfl⟩
    obtain ⟨m1, hm1⟩ : ∃ x, m + 1 = x := ⟨_, rfl⟩
    obtain ⟨NN, hNN⟩ : ∃ x, n1 * n1 = x := ⟨_, rfl⟩
    have hNN2 : NN ≤ 49 := by rw [← hNN]; exact Nat.mul_le_mul (show n1 ≤ 7 by omega) (show n1 ≤ 7 by omega)
    have hlt1 : n1 < NN := by
      rw [← hNN]
      have : n1 * 2 ≤ n1 * n1 := Nat.mul_le_mul_left _ (by omega)
      omega
    have HRW := Lib.hid (show ∀ r ∈ tabX L m, r.length = NN from fun r hr => by
      obtain ⟨j, hj, rfl⟩ := List.mem_map.1 hr
      rw [rowX_len, HNN.out, hn1, hNN])
    have HTX := Lib.hid (tabX_len L m)
    have HCN := Lib.hid (fun v b W hv hb => conq_any v (tabX L m) n n1 NN b (by omega) hn1 hNN HRW.out (by rw [HTX.out]; omega) W hv hb)
    have HROW := Lib.hid (fun j k (hj : j ≤ m) (hk : k < NN) => show ∃ (row : List (Bool × ByteArray)) (o : Option Nat), (tabX L m)[j]? = some row ∧ row.length = NN ∧ row[k]? = some (oB o, oS o) ∧ ∀ x, o = some x → x < 2 ^ 90 from by
      have hk' : k < (L.length + 1) * (L.length + 1) := by rw [HNN.out, hn1, hNN]; exact hk
      exact ⟨_, _, tabX_at hj, by rw [rowX_len, HNN.out, hn1, hNN], rowX_at hk', fun x hx => HTL.out _ _ _ x (by omega) hx⟩)
    have HRO0 := Lib.hid (show ∃ row : List (Bool × ByteArray), (tabX L m)[0]? = some row ∧ row.length = NN ∧ row[n1]? = some (false, mg (limC L m)) from by
      have := HCO.out
      rw [HNN.out, hn1] at this
      exact ⟨_, tabX_at (Nat.zero_le _), by rw [rowX_len, HNN.out, hn1, hNN], by rw [Nat.sub_zero, HNN.out]; exact this⟩)
    rw [hm1] at HX0 HTX
    obtain ⟨ca, hca⟩ : ∃ x, limC L m = x := ⟨_, rfl⟩
    obtain ⟨cb, hcb⟩ : ∃ x, csP (L.zip (othL n m L2)) = x := ⟨_, rfl⟩
    obtain ⟨lm, hlm⟩ : ∃ x, limL L m = x := ⟨_, rfl⟩
    obtain ⟨lo, hloo⟩ : ∃ x, othL n m L2 = x := ⟨_, rfl⟩
    obtain ⟨tx, htx⟩ : ∃ x, tabX L m = x := ⟨_, rfl⟩
    rw [hca] at HX2 HC1 HRO0
    rw [hcb] at HX4 HC1
    rw [hlm] at HX1 HC0 HC2
    rw [hloo] at HX4 HOT1 HF2 HC1
    rw [htx] at HX0 HC0 HC1 HC2 HTX HCN HROW HRO0
    have HMG := Lib.hid (show eqI false (mg cb) false (mg ca) = decide (cb = ca) from by
      by_cases e : cb = ca
      · subst e
        rw [decide_eq_true rfl]
        exact eqI_iff.2 ⟨rfl, rfl⟩
      · rw [decide_eq_false e]
        exact Bool.eq_false_iff.2 fun h => e (mg_inj9 (eqI_iff.1 h).2))
    have HMH := Lib.hid (show eqI false (mg ca) false (mg ca) = true from eqI_iff.2 ⟨rfl, rfl⟩)
    have hm1I : (m : Int) + 1 = (m1 : Int) := by omega
    have hn1I : (n : Int) + 1 = (n1 : Int) := by omega
    have hm19 : 2 ≤ m1 ∧ m1 ≤ 9 := by omega
    have HM1 := Lib.hid hm1
    have hn17 : n1 ≤ 7 := by omega
    have hlt1I : (n1 : Int) < (NN : Int) := by omega
    clear he hb hsl hc1 hc2 hca hcb hlm hloo htx hll hol hfit hm1 hn1 hNN HSM HOT h26 hm8 HZ HLZ HOB HLB HFT HK0 HK1 HK2 HCO HTL HRW
    go_wp2_with fail
    refine (HX0.out _ (Below.refl _ _)).mono ?_
    rintro e w2 ⟨T, rfl, ht, hb2⟩
    have HT2 := Lib.hid ht
    have HD2 := Lib.hid hb2
    clear ht hb2 HX0
    go_wp2_with fail
    refine (HX1.out _ HD2.out).mono ?_
    rintro e w3 ⟨qq, rfl, hqq, hb3⟩
    have HQ3 := Lib.hid hqq
    have HT3 := Lib.hid (HT2.out.below hb3)
    have HD3 := Lib.hid (bstep HD2.out hb3)
    clear hqq hb3 HX1 HD2 HT2
    go_wp2_with fail
    refine (HX2.out _ HD3.out).mono ?_
    rintro e w4 ⟨rfl, hb4⟩
    have hal : Below w4.heap.size w4 (w4.alloc (.cells #[.bool false, .string (mg ca)] 29)) := (Below.refl _ _).alloc (Nat.le_refl _) _
    have hst := hb4.trans (hal.mono hb4.size)
    have HD4 := Lib.hid (bstep HD3.out hst)
    have HQ4 := Lib.hid (HQ3.out.below hst)
    have HT4 := Lib.hid (HT3.out.below hst)
    have HP4 := Lib.hid (BC.new w4 w4.heap.size #[.bool false, .string (mg ca)] 29 rfl)
    clear hb4 hal hst HX2 HD3 HQ3 HT3
    go_upto_region 7 with fail
    obtain ⟨b20, hb20⟩ : ∃ b, w4.heap.size = b := ⟨_, rfl⟩
    rw [hb20] at HP4 ⊢
    obtain ⟨Y4, hY4⟩ : ∃ X, w4.alloc (.cells #[.bool false, .string (mg ca)] 29) = X := ⟨_, rfl⟩
    rw [hY4] at HD4 HQ4 HT4 HP4 ⊢
    clear hY4 hb20
    have hal : Below Y4.heap.size Y4 (Y4.alloc (.cells #[.int .i64 (n : Int)] 3)) := (Below.refl _ _).alloc (Nat.le_refl _) _
    have HD5 := Lib.hid (bstep HD4.out hal)
    have HQ5 := Lib.hid (HQ4.out.below hal)
    have HT5 := Lib.hid (HT4.out.below hal)
    have HP5 := Lib.hid (HP4.out.below hal)
    have HN5 := Lib.hid (BC.new Y4 Y4.heap.size #[.int .i64 (n : Int)] 3 rfl)
    go_upto_region 8 with fail
    obtain ⟨b22, hb22⟩ : ∃ b, Y4.heap.size = b := ⟨_, rfl⟩
    rw [hb22] at HN5 ⊢
    obtain ⟨Y5, hY5⟩ : ∃ X, Y4.alloc (.cells #[.int .i64 (n : Int)] 3) = X := ⟨_, rfl⟩
    rw [hY5] at HD5 HQ5 HT5 HP5 HN5 ⊢
    clear hY5 hb22 hal HD4 HQ4 HT4 HP4
    obtain ⟨row0, r0a, r0b, r0c⟩ := HRO0.out
    obtain ⟨T', c', ee, -, -, hat⟩ := id HT5.out
    have eT : T' = ⟨T, 0, none⟩ := by injection ee with h1 h2 h3; exact (Option.some.inj h1).symm
    subst eT
    clear ee
    obtain ⟨A0, c0, t0, -, -, t1⟩ := hat 0 _ r0a
    rw [r0b, addr0] at t0
    obtain ⟨A1, e1, t2, t3⟩ := t1 _ _ _ r0c
    cases e1
    have t4 : Y5.cell? ⟨(A0.add (n1 * 2)).block, (A0.add (n1 * 2)).off + 1, none⟩ = some (.string (mg ca)) := by rw [addr_next]; exact t3
    have hm1p : (0 : Int) < (m1 : Int) := by omega
    have HCN5 := Lib.hid (fun W (h : Below Y5.heap.size Y5 W) => HCN.out _ b22 W (HT5.out.below h) (HN5.out.below h))
    have HCC := Lib.hid (fun W (h : Below Y5.heap.size Y5 W) => HC0.out _ qq W (bstep HD5.out h) (HT5.out.below h) (HQ5.out.below h))
    have hmh := HMH.out
    have hmm : ((m1 : Int) != (m1 : Int)) = false := by simp
    haveI := cls_some Y5
    have f0 : ∀ u : Cl Y5, u.x.cell? ⟨T, 0, none⟩ = some (.slice (some A0) NN c0) := fun u => cellBelow t0 u.h
    have f1 : ∀ u : Cl Y5, u.x.cell? (A0.add (n1 * 2)) = some (.bool false) := fun u => cellBelow t2 u.h
    have f2 : ∀ u : Cl Y5, u.x.cell? ⟨(A0.add (n1 * 2)).block, (A0.add (n1 * 2)).off + 1, none⟩ = some (.string (mg ca)) := fun u => cellBelow t4 u.h
    have f3 : ∀ u : Cl Y5, u.x.cell? ⟨b22, 0, none⟩ = some (.int .i64 (n : Int)) := fun u => (HN5.out.below u.h).at 0 _ rfl
    have f4 : ∀ u : Cl Y5, u.x.cell? ⟨b20, 0, none⟩ = some (.bool false) := fun u => (HP5.out.below u.h).at 0 _ rfl
    have f5 : ∀ u : Cl Y5, u.x.cell? ⟨b20, 1, none⟩ = some (.string (mg ca)) := fun u => (HP5.out.below u.h).at 1 _ rfl
    clear r0a r0b r0c t0 t1 t2 t3 t4 hat
    refine wp_region_cls (by kernel_rfl) ?_
    iterate 15 (go_big_quiet_step (fail))
    go_big_quiet_step ((go_at_call 37; exact quiet_cB (Below.refl _ _) HCN5.out _))
    iterate 17 (go_big_quiet_step (fail))
    go_big_quiet_step ((go_at_call 39; exact quiet_cB (Below.refl _ _) HCC.out _))
    iterate 2 (go_big_quiet_step (fail))
    refine wpQuiet_nil ?_
    intro w8 hw8
    obtain ⟨u8, rfl⟩ := hw8
    have HD8 := Lib.hid (bstep HD5.out u8.h)
    have HQ8 := Lib.hid (HQ5.out.below u8.h)
    have HT8 := Lib.hid (HT5.out.below u8.h)
    have HP8 := Lib.hid (HP5.out.below u8.h)
    have HN8 := Lib.hid (HN5.out.below u8.h)
    obtain ⟨X8, hX8⟩ : ∃ X, u8.x = X := ⟨_, rfl⟩
    rw [hX8] at HD8 HQ8 HT8 HP8 HN8 ⊢
    clear f0 f1 f2 f3 f4 f5 this HCN5 HCC HD5 HQ5 HT5 HP5 HN5 hmh
    have x0 := HN8.out.at 0 _ rfl
    go_wp2_with fail
    refine (HOT1.out _ HD8.out).mono ?_
    rintro e w9 ⟨qo, rfl, hqo, hb9⟩
    have HD9 := Lib.hid (bstep HD8.out hb9)
    have HQ9 := Lib.hid (HQ8.out.below hb9)
    have HT9 := Lib.hid (HT8.out.below hb9)
    have HP9 := Lib.hid (HP8.out.below hb9)
    have HO9 := Lib.hid hqo
    clear hqo hb9 x0 HD8 HQ8 HT8 HP8 HN8 HOT1 hX8
    go_wp2_with fail
    refine (HF2.out qo _ HO9.out).mono ?_
    rintro e wa ⟨rfl, hba⟩
    have HDa := Lib.hid (bstep HD9.out hba)
    have HQa := Lib.hid (HQ9.out.below hba)
    have HTa := Lib.hid (HT9.out.below hba)
    have HPa := Lib.hid (HP9.out.below hba)
    have HOa := Lib.hid (HO9.out.below hba)
    clear hba HD9 HQ9 HT9 HP9 HO9 HF2
    go_wp2_with fail
    refine (HX4.out qo _ HDa.out HOa.out).mono ?_
    rintro e wb ⟨rfl, hbb⟩
    have hal : Below wb.heap.size wb (wb.alloc (.cells #[.bool false, .string (mg cb)] 29)) := (Below.refl _ _).alloc (Nat.le_refl _) _
    have hst := hbb.trans (hal.mono hbb.size)
    have HDb := Lib.hid (bstep HDa.out hst)
    have HQb := Lib.hid (HQa.out.below hst)
    have HTb := Lib.hid (HTa.out.below hst)
    have HPb := Lib.hid (HPa.out.below hst)
    have HOb := Lib.hid (HOa.out.below hst)
    have HRb := Lib.hid (BC.new wb wb.heap.size #[.bool false, .string (mg cb)] 29 rfl)
    clear hbb hal hst HDa HQa HTa HPa HOa HX4
    go_upto_region 13 with fail
    obtain ⟨b26, hb26⟩ : ∃ b, wb.heap.size = b := ⟨_, rfl⟩
    rw [hb26] at HRb ⊢
    obtain ⟨Yb, hYb⟩ : ∃ X, wb.alloc (.cells #[.bool false, .string (mg cb)] 29) = X := ⟨_, rfl⟩
    rw [hYb] at HDb HQb HTb HPb HOb HRb ⊢
    clear hYb hb26
    go_cut [24, 101, 103, 104, 132] (fun v24 v101 v103 v104 v132 wx => v132 = .bool false ∧ Below Yb.heap.size Yb wx)
    case first =>
      have HCb := Lib.hid (HC1.out _ qo Yb HDb.out HTb.out HOb.out)
      have x0 := HPb.out.at 0 _ rfl
      have x1 := HPb.out.at 1 _ rfl
      have x2 := HRb.out.at 0 _ rfl
      have x3 := HRb.out.at 1 _ rfl
      have hmg := HMG.out
      by_cases hft : krL 32 lo ≤ 2 ^ 32
      · rw [decide_eq_true hft]
        rw [if_pos hft] at HCb
        clear hft
        by_cases hce : cb = ca
        · rw [decide_eq_true hce] at hmg
          rw [if_neg (fun h => h hce)] at HCb
          clear hce
          go_wp2_with fail
          refine HCb.out.mono ?_
          rintro e wc ⟨rfl, hbc⟩
          have y0 := (HPb.out.below hbc).at 0 _ rfl
          have y1 := (HPb.out.below hbc).at 1 _ rfl
          have y2 := (HRb.out.below hbc).at 0 _ rfl
          have y3 := (HRb.out.below hbc).at 1 _ rfl
          have HBC := Lib.hid hbc
          clear hbc x0 x1 x2 x3
          go_wp2_with fail
          go_meet
          exact ⟨rfl, HBC.out⟩
        · rw [decide_eq_false hce] at hmg
          rw [if_pos hce] at HCb
          clear hce
          go_wp2_with fail
          refine HCb.out.mono ?_
          rintro e wc ⟨rfl, hbc⟩
          have y0 := (HPb.out.below hbc).at 0 _ rfl
          have y1 := (HPb.out.below hbc).at 1 _ rfl
          have y2 := (HRb.out.below hbc).at 0 _ rfl
          have y3 := (HRb.out.below hbc).at 1 _ rfl
          have HBC := Lib.hid hbc
          clear hbc x0 x1 x2 x3
          go_wp2_with fail
          go_meet
          exact ⟨rfl, HBC.out⟩
      · rw [decide_eq_false hft]
        have HCc := Lib.hid (HCb.out.mono fun e w' h => (show e = .returned (.int .i64 23) ∧ Below Yb.heap.size Yb w' from ⟨by rw [h.1, if_neg hft]; split <;> rfl, h.2⟩))
        clear hft
        go_wp2_with fail
        refine HCc.out.mono ?_
        rintro e wc ⟨rfl, hbc⟩
        have HBC := Lib.hid hbc
        clear hbc x0 x1 x2 x3
        go_wp2_with fail
        go_meet
        exact ⟨rfl, HBC.out⟩
    case rest =>
      obtain ⟨rfl, hbx⟩ := hcut
      rename World => Wx
      have HDx := Lib.hid (bstep HDb.out hbx)
      have HQx := Lib.hid (HQb.out.below hbx)
      have HTx := Lib.hid (HTb.out.below hbx)
      have HBZ := Lib.hid (bstep HB1.out HDx.out)
      clear hbx HDb HQb HTb HPb HOb HRb HC1 HMG
      by_cases hy0 : y = 0
      · subst hy0
        go_wp2_with fail
        refine (HAW.out _).mono ?_
        rintro e wz ⟨rfl, hbz⟩
        go_wp2
        go_ret
        exact ⟨rfl, bstep HBZ.out hbz⟩
      · have hyB : (y == 0) = false := by simp [hy0]
        have HY0 := Lib.hid hy0
        obtain ⟨j, hj⟩ : ∃ x, ia % m1 = x := ⟨_, rfl⟩
        obtain ⟨k, hk⟩ : ∃ x, ip % NN = x := ⟨_, rfl⟩
        have hjm : j < m1 := by rw [← hj]; exact Nat.mod_lt _ (by omega)
        have hkN : k < NN := by rw [← hk]; exact Nat.mod_lt _ (by omega)
        have hjI : Int.tmod (ia : Int) (m1 : Int) = (j : Int) := by rw [Int.tmod_eq_emod_of_nonneg (by omega)]; omega
        have hkI : Int.tmod (ip : Int) (NN : Int) = (k : Int) := by rw [Int.tmod_eq_emod_of_nonneg (by omega)]; omega
        have hm0 : ¬ (m1 : Int) = 0 := by omega
        have hN0 : ¬ (NN : Int) = 0 := by omega
        have hm0B : ((m1 : Int) == 0) = false := by simp; omega
        have hN0B : ((NN : Int) == 0) = false := by simp; omega
        have hjmI : (j : Int) < (m1 : Int) := by omega
        have hkNI : (k : Int) < (NN : Int) := by omega
        obtain ⟨row, o, r1, r2, r3, r4⟩ := HROW.out j k (by have := HM1.out; omega) hkN
        obtain ⟨hrp, hrb⟩ := oV_rp r4
        have HNE := Lib.hid (tab_ne r1 r3 (oV_ne (o := o) HY0.out))
        have HOF := Lib.hid (fun W => cOf y (by omega) (by omega) W)
        have hypr := rpV (z := y) (N := 10) (by omega) (by decide)
        have HAD := Lib.hid (fun W => cAdd hrp hypr W)
        obtain ⟨z, hz⟩ : ∃ z, oI o + y = z := ⟨_, rfl⟩
        rw [hz] at HNE HAD
        obtain ⟨bo, hbo⟩ : ∃ x, oB o = x := ⟨_, rfl⟩
        obtain ⟨so, hso⟩ : ∃ x, oS o = x := ⟨_, rfl⟩
        rw [hbo, hso] at r3 HAD
        obtain ⟨T', cT, ee, hcT1, hcT2, hat⟩ := id HTx.out
        have eT : T' = ⟨T, 0, none⟩ := by injection ee with h1 h2 h3; exact (Option.some.inj h1).symm
        have ecT : cT = m1 := by injection ee with h1 h2 h3; exact h3.symm
        subst eT ecT
        clear ee
        obtain ⟨Am, cm, f1, f2, f3, f4⟩ := hat j row r1
        rw [r2, addr0] at f1
        have HF4 := Lib.hid f4
        have HF23 := Lib.hid (And.intro f2 f3)
        have HRX := Lib.hid (And.intro r1 (And.intro r2 r3))
        have HCR := Lib.hid (cloneR_any ⟨T, 0, none⟩ cT tx (by rw [HTX.out]; omega) (by rw [HTX.out]; omega) Wx (fun i hi => by
          obtain ⟨Ai, ci, q1, -⟩ := hat i tx[i] (List.getElem?_eq_getElem hi)
          exact ⟨Ai, _, ci, q1⟩))
        rw [HTX.out] at HCR
        clear hj hk hjm r1 r2 r3 r4 hrp hrb hypr hz hbo hso hat f2 f3 f4 hcT1 hcT2 HROW hy0
        go_wp2_with fail
        refine HCR.out.mono ?_
        rintro e w5 ⟨p5, c5, rfl, hc51, hc52, h5y, ho5, hb5⟩
        have HO5 := Lib.hid ho5
        have HB5 := Lib.hid hb5
        have HC5 := Lib.hid (And.intro hc51 hc52)
        have H5Y := Lib.hid h5y
        have HCI := Lib.hid (cloneI_any Am cm row (by rw [HRX.out.2.1]; omega) (by rw [HRX.out.2.1]; omega) w5 (HF4.out.below hb5))
        rw [HRX.out.2.1] at HCI
        have g5 := (hb5.cell (World.block_lt_of_cell? _ _ f1)).trans f1
        have f1' : Wx.cell? ((⟨T, 0, none⟩ : Addr).add j) = some (.slice (some Am) NN cm) := by rw [addr0]; exact f1
        have hjn : j < cT := by omega
        have H5L := Lib.hid (show p5 < w5.heap.size from World.block_lt_of_cell? _ ⟨p5, j, none⟩ (ho5.at (v := .slice (some Am) NN cm) (rvs_at hjn f1')))
        clear hc51 hc52 h5y ho5 hb5 HCR
        go_wp2_with fail
        refine HCI.out.mono ?_
        rintro e w6 ⟨p6, c6, rfl, hc61, hc62, h65, ho6, hb6⟩
        have hne : p5 ≠ p6 := by have := H5L.out; omega
        have HNE6 := Lib.hid hne
        have HO6 := Lib.hid ho6
        have HC6 := Lib.hid (And.intro hc61 hc62)
        have HO56 := Lib.hid (HO5.out.below hb6)
        have HB6 := Lib.hid (bstep HB5.out hb6)
        have H65 := Lib.hid h65
        have x5m := (HO56.out).at (v := .slice (some Am) NN cm) (rvs_at hjn f1')
        have z6m := HO56.out.z (i := j) (by rw [rvs_len]; exact hjn)
        clear hc61 hc62 h65 ho6 hb6 HCI HO5 g5 hne
        go_upto_region 21 with fail
        obtain ⟨X, hX⟩ : ∃ X, w6.setCell ⟨p5, j, none⟩ (.slice (some ⟨p6, 0, none⟩) NN c6) = X := ⟨_, rfl⟩
        have HO5X := Lib.hid (show OwnAt X p5 ((rvs Wx ⟨T, 0, none⟩ cT).set j (.slice (some ⟨p6, 0, none⟩) NN c6)) from by rw [← hX]; exact HO56.out.set _ (by rw [rvs_len]; exact hjn))
        have HO6X := Lib.hid (show OwnAt X p6 (inV row) from by rw [← hX]; exact HO6.out.other j _ (Ne.symm HNE6.out))
        have HBX := Lib.hid (show Below Wx.heap.size Wx X from by rw [← hX]; exact HB6.out.setCell (p := ⟨p5, j, none⟩) H5Y.out _)
        rw [hX]
        have a0 := HO5X.out.at (i := j) (v := .slice (some ⟨p6, 0, none⟩) NN c6) (by rw [List.getElem?_set, if_pos rfl, if_pos (by rw [rvs_len]; exact hjn)])
        have a1 := (HBX.out.cell (World.block_lt_of_cell? _ _ f1)).trans f1
        obtain ⟨A', eA, b0, b1⟩ := (HF4.out.below HBX.out) k bo so HRX.out.2.2
        cases eA
        clear hX x5m z6m f1 f1' HO56 HO6 HB6
        refine wp_region_front 16 zvI (by kernel_rfl) shI (by kernel_rfl) (by kernel_rfl) (zvI_alloc _ (by kernel_rfl)) (shI_store _ (by kernel_rfl)) ?_
        intro mm BW hm1 hm2 hBW
        haveI := clm_some mm BW
        have fq0 := fun u : Clm mm BW => u.cellC hm1 hBW a0
        have fr0 := fun u : Clm mm BW => u.cellC hm1 hBW a1
        have fq1 := fun u : Clm mm BW => u.cellC hm1 hBW b0
        have fr1 := fun u : Clm mm BW => u.cellC hm1 hBW b1
        have fs1 : ∀ u : Clm mm BW, u.x.cell? ⟨(Am.add (k * 2)).block, (Am.add (k * 2)).off + 1, none⟩ = some (.string so) := fun u => by rw [addr_next]; exact fr1 u
        simp only [frontOf, unmade, List.take_succ_cons, List.take_zero, List.map_cons, List.map_nil]
        iterate 14 (go_big_quiet_step (fail))
        go_big_quiet_step ((go_at_call 12; exact quiet_clm hm2 HOF.out _))
        go_big_quiet_step ((go_at_call 42; exact quiet_clm hm2 HAD.out _))
        refine wpQuiet_nil ?_
        refine ⟨List.forall_mem_nil _, ?_⟩
        intro γ w7 hB7 hF
        clear hF hBW this hm1 hm2 fq0 fr0 fq1 fr1 fs1
        clear BW mm
        simp only [madesFrom, Facts, patch, List.take_succ_cons, List.take_zero, List.drop_succ_cons, List.drop_zero]
        clear γ
        have HP6 := Lib.hid (HO6X.out.below hB7)
        have HP5 := Lib.hid (HO5X.out.below hB7)
        have HB7 := Lib.hid (bstep HBX.out hB7)
        clear hB7 a0 a1 b0 b1 HO6X HO5X HBX HF4
        obtain ⟨i0, i1⟩ := inV_at row k bo so HRX.out.2.2
        have hpl : k * 2 + 1 < (inV row).length := by rw [inV_len, HRX.out.2.1]; omega
        have x0 := HP6.out.at i0
        have x1 := HP6.out.at i1
        have z0 := HP6.out.z (i := k * 2) (by omega)
        have z1 := HP6.out.z (i := k * 2 + 1) (by omega)
        obtain ⟨X7, hX7⟩ : ∃ X, (w7.setCell ⟨p6, k * 2, none⟩ (.bool (sgn z))).setCell ⟨p6, k * 2 + 1, none⟩ (.string (mg z.natAbs)) = X := ⟨_, rfl⟩
        have HQ6 := Lib.hid (show OwnAt X7 p6 (inV (row.set k (sgn z, mg z.natAbs))) from by
          rw [← hX7, ← inV_set _ _ _ _ (by rw [HRX.out.2.1]; exact hkN)]
          exact (HP6.out.set _ (by omega)).set _ (by rw [List.length_set]; omega))
        have HQ5 := Lib.hid (show OwnAt X7 p5 ((rvs Wx ⟨T, 0, none⟩ cT).set j (.slice (some ⟨p6, 0, none⟩) NN c6)) from by
          rw [← hX7]
          exact (HP5.out.other _ _ HNE6.out).other _ _ HNE6.out)
        have HY6 := Lib.hid (show Wx.heap.size ≤ p6 from Nat.le_trans HB5.out.size H65.out)
        have HB7X := Lib.hid (show Below Wx.heap.size Wx X7 from by
          rw [← hX7]
          exact (HB7.out.setCell (p := ⟨p6, k * 2, none⟩) HY6.out _).setCell (p := ⟨p6, k * 2 + 1, none⟩) HY6.out _)
        have HWR := Lib.hid (show RwS X7 (.slice (some ⟨p5, 0, none⟩) cT c5) (tx.set j (row.set k (sgn z, mg z.natAbs))) from by
          have h := chg_rows (Y := Wx) (X := X7) (G := ⟨T, 0, none⟩) (cG := cT) (M := tx) (p5 := p5) (p6 := p6) (c5 := c5) (c6 := c6) (m := j) (row := row) (row' := row.set k (sgn z, mg z.natAbs)) (by rw [HTX.out]; exact HTx.out) HB7X.out HRX.out.1 (List.length_set ..) (by rw [HTX.out, HRX.out.2.1]; exact HQ5.out) HQ6.out (by rw [HTX.out]; exact HC5.out) (by rw [HRX.out.2.1]; exact HC6.out)
          rw [HTX.out] at h
          exact h)
        have HCW := Lib.hid (HC2.out _ HNE.out _ qq X7 (bstep HDx.out HB7X.out) HWR.out (HQx.out.below HB7X.out))
        have HBF := Lib.hid (bstep HBZ.out HB7X.out)
        clear i0 i1 HP6 HP5 HB7 H65 HB5 HQ5 HQ6
        go_wp2_with fail
        refine HCW.out.mono ?_
        rintro e wy ⟨rfl, hby⟩
        go_wp2_with fail
        refine (HAW.out _).mono ?_
        rintro e wz ⟨rfl, hbz⟩
        go_wp2
        go_ret
        exact ⟨rfl, bstep HBF.out (bstep hby hbz)⟩
end Go.Proofs.Gv
