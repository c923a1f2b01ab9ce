/- The law LimitedScales. -/
import Derived.Test.YtglgiofjgfbfgaaLsm
set_option linter.unusedSimpArgs false
set_option linter.unusedVariables false
namespace Go.Proofs.Gv
open Go Go.RowKit Go.Maps

theorem u16_nat9 {n : Int} (h : (Lit.int .u16 n).wf = true) : ∃ m : Nat, n = m ∧ m ≤ 65535 := by
  have h2 : IntKind.u16.min ≤ n ∧ n ≤ IntKind.u16.max := by simpa [Lit.wf] using h
  have e1 : IntKind.u16.min = 0 := by decide
  have e2 : IntKind.u16.max = 65535 := by decide
  rw [e1, e2] at h2
  exact ⟨n.toNat, by omega, by omega⟩
theorem limE_zero {Ws : List Nat} {m : Nat} (h2 : 2 ≤ Ws.length) (h64 : Ws.length ≤ 64) (hm : 1 ≤ m) (hm64 : m ≤ 64) (hf : Ws.length ≤ 2 ^ m) : limE (VL Ws) m = 0 := by
  unfold limE
  rw [if_neg (by rw [chkW_VL h2 h64]; simp), if_neg (by omega), if_neg]
  rintro ⟨-, h⟩
  rw [Int.toNat_natCast, VL_len] at h
  omega
theorem limL_len (Ws : List Nat) (m : Nat) : (limL Ws m).length = Ws.length := by unfold limL; rw [putA_len, List.length_replicate]
theorem VL8 {Ws : List Nat} (h : ∀ z ∈ Ws, z < 2 ^ 64) : ∀ x ∈ VL Ws, x.2.size ≤ 8 := fun x hx => by
  obtain ⟨z, hm, rfl⟩ := List.mem_map.1 hx
  exact size_mg (n := z) (k := 8) (Nat.lt_of_lt_of_le (h z hm) (by decide))
theorem wf_m {m : Nat} (h : m ≤ 64) : (Lit.int .i64 (m : Int)).wf = true := by
  have h1 : IntKind.i64.min = -9223372036854775808 := by decide
  have h3 : IntKind.i64.max = 9223372036854775807 := by decide
  simp [Lit.wf, h1, h3]
  omega
/-- Lengths at weights that fit. -/
theorem len39_ok {g c n m : Nat} {Ws : List Nat} (hn : Ws.length = n) (h2 : 2 ≤ n) (h12 : n ≤ 12) (hc : n ≤ c) (hcm : c ≤ maxLen) (hz : ∀ z ∈ Ws, z < 2 ^ 64) (hm : 1 ≤ m) (hm64 : m ≤ 64) (hf : n ≤ 2 ^ m) (W : World) (hS : Sl W (some ⟨g, 0, none⟩) (VL Ws)) :
    Calls Try.prog 14 #[.slice (some ⟨g, 0, none⟩) n c, .int .i64 m] W fun e w' => ∃ q, e = .returned (.tuple #[.slice (some ⟨q, 0, none⟩) n n, .int .i64 0]) ∧ BC w' q (natV (limL Ws m)) ∧ Below W.heap.size W w' := by
  have h := Lengths39_any c (some ⟨g, 0, none⟩) (VL Ws) m (by rw [VL_len, hn]; exact hc) hcm (.inl (by rw [VL_len, hn]; exact h12)) (VL8 hz) (wf_m hm64) W hS
  rw [VL_len, hn] at h
  refine h.mono ?_
  rintro e w' ⟨-, h, hb⟩
  obtain ⟨Us, q, e1, rfl, hq⟩ := h (limE_zero (by omega) (by omega) hm hm64 (by omega))
  obtain rfl := VL_inj e1
  rw [Int.toNat_natCast] at hq
  exact ⟨q, by rw [hn], hq, hb⟩
/-- Cost at weights that fit. -/
theorem cos39_ok {g c n m : Nat} {Ws : List Nat} (hn : Ws.length = n) (h2 : 2 ≤ n) (h12 : n ≤ 12) (hc : n ≤ c) (hcm : c ≤ maxLen) (hz : ∀ z ∈ Ws, z < 2 ^ 64) (hm : 1 ≤ m) (hm64 : m ≤ 64) (hf : n ≤ 2 ^ m) (W : World) (hS : Sl W (some ⟨g, 0, none⟩) (VL Ws)) :
    Calls Try.prog 15 #[.slice (some ⟨g, 0, none⟩) n c, .int .i64 m] W fun e w' => e = .returned (.tuple #[.agg #[.bool false, .string (mg (limC Ws m))], .int .i64 0]) ∧ Below W.heap.size W w' := by
  have h := Cost39_any c (some ⟨g, 0, none⟩) (VL Ws) m (by rw [VL_len, hn]; exact hc) hcm (.inl (by rw [VL_len, hn]; exact h12)) (VL8 hz) (wf_m hm64) W hS
  rw [VL_len, hn] at h
  refine h.mono ?_
  rintro e w' ⟨-, h, hb⟩
  obtain ⟨Us, e1, rfl⟩ := h (limE_zero (by omega) (by omega) hm hm64 (by omega))
  obtain rfl := VL_inj e1
  exact ⟨by rw [Int.toNat_natCast], hb⟩
set_option maxRecDepth 100000 in
set_option maxHeartbeats 8000000 in
theorem law_scales39 (w : World) (a : Option Addr) (cap : Nat) (L : List Nat) (hc : L.length ≤ cap) (hcm : cap ≤ maxLen) (hz : ∀ x ∈ L, x < 2 ^ 32) (hS : USl w a L) (ha : a = none → L = [] ∧ cap = 0) (q : Int) (wq : (Lit.int .u8 q).wf = true) (f : Int) (wf : (Lit.int .u16 f).wf = true) :
    Calls Try.prog 3 #[.slice a L.length cap, .int .u8 q, .int .u16 f] w fun e w' => e = .returned (.bool true) ∧ Below w.heap.size w w' := by
  obtain ⟨q, rfl, hq⟩ := u8_nat9 wq
  obtain ⟨f, rfl, hf⟩ := u16_nat9 wf
  have HSM := Lib.hid (small39_any w a cap L hc hcm hz hS q hq)
  have HAW := Lib.hid (fun W => awake39_any W)
  have HZ := Lib.hid hz
  clear wq wf hS ha hz hc hcm
  by_cases hn : L.length < 2 ∨ 6 < L.length
  · go_enter Try.func3, Try.ntmps3
    go_wp2_with fail
    refine HSM.out.mono ?_
    rintro e w1 ⟨he, -, hb⟩
    obtain rfl := he hn
    go_wp2_with fail
    refine (HAW.out _).mono ?_
    rintro e w2 ⟨rfl, hb2⟩
    go_wp2
    go_ret
    exact ⟨rfl, bstep hb hb2⟩
  have h26 : 2 ≤ L.length ∧ L.length ≤ 6 := by omega
  obtain ⟨m, hm⟩ : ∃ m, q % 8 + 1 = m := ⟨_, rfl⟩
  have hm8 : 1 ≤ m ∧ m ≤ 8 := by omega
  obtain ⟨n, hnn⟩ : ∃ n, L.length = n := ⟨_, rfl⟩
  have HNN := Lib.hid hnn
  unfold SmQ at HSM
  rw [hm, hnn] at HSM
  rw [hnn] at h26 ⊢
  clear hn hm hnn hq
  by_cases hfit : n ≤ 2 ^ m
  case neg =>
    rw [decide_eq_false hfit] at HSM
    clear hfit
    go_enter Try.func3, Try.ntmps3
    go_wp2_with fail
    refine HSM.out.mono ?_
    rintro e w1 ⟨-, he, hb⟩
    obtain ⟨g, c, rfl, -⟩ := he h26
    go_wp2_with fail
    refine (HAW.out _).mono ?_
    rintro e w2 ⟨rfl, hb2⟩
    go_wp2
    go_ret
    exact ⟨rfl, bstep hb hb2⟩
  case pos =>
    rw [decide_eq_true hfit] at HSM
    obtain ⟨r, hr⟩ : ∃ r, f % 1000 = r := ⟨_, rfl⟩
    obtain ⟨k, hk⟩ : ∃ k, r + 1 = k := ⟨_, rfl⟩
    have hrI : Int.tmod (f : Int) 1000 = (r : Int) := by rw [Int.tmod_eq_emod_of_nonneg (by omega)]; omega
    have hkI : (r : Int) + 1 = (k : Int) := by omega
    have hr1000 : r ≤ 1000 := by omega
    have hk1000 : 1 ≤ k ∧ k ≤ 1000 := by omega
    have hf65 : f ≤ 65535 := hf
    have HK := Lib.hid hk1000
    have HFT := Lib.hid hfit
    have HM8 := Lib.hid hm8
    have H26 := Lib.hid h26
    have hn6 : n ≤ 6 := h26.2
    have HOF := Lib.hid (fun W => show Calls Try.prog 12 #[.int .i64 (k : Int)] W fun e w' => e = .returned (.agg #[.bool false, .string (mg k)]) ∧ Below W.heap.size W w' from by
      have := cOf (k : Int) (by omega) (by omega) W
      rwa [Int.natAbs_natCast, show sgn (k : Int) = false from decide_eq_false (by omega)] at this)
    obtain ⟨i0, hi0, hz0, hz1, hz2⟩ := info_parts infoI
    clear hr hk hfit hf
    go_enter Try.func3, Try.ntmps3
    go_wp2_with fail
    refine HSM.out.mono ?_
    rintro e w1 ⟨-, he, hb⟩
    obtain ⟨g, c, rfl, hc1, hc2, hsl⟩ := he h26
    have HB1 := Lib.hid hb
    have HS1 := Lib.hid hsl
    have HCC := Lib.hid (And.intro hc1 hc2)
    clear he hb hsl hc1 hc2 HSM
    go_wp2_with fail
    refine (HOF.out _).mono ?_
    rintro e w2 ⟨rfl, hb⟩
    have hal : Below w2.heap.size w2 (w2.alloc (.cells #[.bool false, .string (mg k)] 29)) := (Below.refl _ _).alloc (Nat.le_refl _) _
    have hst := hb.trans (hal.mono hb.size)
    have HB2 := Lib.hid (bstep HB1.out hst)
    have HS2 := Lib.hid (HS1.out.below hst)
    have HP2 := Lib.hid (BC.new w2 w2.heap.size #[.bool false, .string (mg k)] 29 rfl)
    clear hb hal hst HB1 HS1
    go_wp2_with fail
    obtain ⟨b10, hb10⟩ : ∃ b, w2.heap.size = b := ⟨_, rfl⟩
    rw [hb10] at HP2 ⊢
    obtain ⟨Y2, hY2⟩ : ∃ X, w2.alloc (.cells #[.bool false, .string (mg k)] 29) = X := ⟨_, rfl⟩
    rw [hY2] at HB2 HS2 HP2 ⊢
    clear hY2 hb10
    go_loopg [11, 39] (n + 1) (fun gg v11 v39 wr => ∃ i : Nat, v39 = .int .i64 (i : Int) ∧ i ≤ n ∧ n - i < gg ∧ Below Y2.heap.size Y2 wr ∧ wr.ownsRow Y2.heap.size 29 2 v11 i (inV (VL ((L.map (k * ·)).take i))))
    case atStart => exact ⟨0, rfl, Nat.zero_le _, by omega, Below.refl _ _, own_nil _ _ _ _⟩
    case round =>
      obtain ⟨i, rfl, hi, hig, hb, hown⟩ := hrel
      have HG := Lib.hid hig
      have HB := Lib.hid hb
      have HO := Lib.hid hown
      have HPr := Lib.hid (HP2.out.below hb)
      clear hig hb hown
      by_cases hlt : i < n
      · have hltI : (i : Int) < n := by omega
        obtain ⟨x, hx⟩ : ∃ x, L[i]? = some x := ⟨L[i]'(by rw [HNN.out]; exact hlt), List.getElem?_eq_getElem _⟩
        have hxb := HZ.out x (List.mem_of_getElem? hx)
        obtain ⟨A', eA, c0, c1⟩ := (HS2.out.below HB.out) i false (mg x) (VL_at hx)
        cases eA
        have hadd : ∀ j, (⟨g, 0, none⟩ : Addr).add j = ⟨g, j, none⟩ := fun j => by unfold Addr.add; split <;> simp_all
        rw [hadd] at c0 c1
        have HML := Lib.hid (fun W => cMulN (x := x) (d := k) 32 10 hxb (Nat.lt_of_le_of_lt HK.out.2 (by decide)) (by decide) (by decide) W)
        have HX := Lib.hid (show inV (VL ((L.map (k * ·)).take (i + 1))) = inV (VL ((L.map (k * ·)).take i)) ++ [.bool false, .string (mg (x * k))] from by
          rw [List.take_add_one, List.getElem?_map, hx]
          unfold VL
          rw [List.map_append, Nat.mul_comm x k]
          exact inV_snoc _ _)
        have hq0 := HPr.out.at 0 _ rfl
        have hq1 := HPr.out.at 1 _ rfl
        have hbl : b10 < wr.heap.size := HPr.out.lt
        have halx : Below wr.heap.size wr (wr.alloc (.cells #[.bool false, .string (mg x)] 29)) := (Below.refl _ _).alloc (Nat.le_refl _) _
        have HTX := Lib.hid (BC.new wr wr.heap.size #[.bool false, .string (mg x)] 29 rfl)
        have HP3 := Lib.hid (HPr.out.below halx)
        have HO3 := Lib.hid (own_grown HO.out (Below.grows halx) (by simp))
        have HB3 := Lib.hid (bstep HB.out halx)
        obtain ⟨v3, rfl⟩ : ∃ X, X = u11 := ⟨_, rfl⟩
        obtain ⟨bx, hbx⟩ : ∃ b, wr.heap.size = b := ⟨_, rfl⟩
        obtain ⟨Y3, hY3⟩ : ∃ X, wr.alloc (.cells #[.bool false, .string (mg x)] 29) = X := ⟨_, rfl⟩
        rw [hbx] at HTX
        rw [hY3] at HTX HP3 HO3 HB3
        have x0 := HTX.out.at 0 _ rfl
        have x1 := HTX.out.at 1 _ rfl
        have y0 := HP3.out.at 0 _ rfl
        have y1 := HP3.out.at 1 _ rfl
        clear hx hxb hadd halx
        go_wp2_with fail
        refine (HML.out _).mono ?_
        rintro e w5 ⟨rfl, hb5⟩
        have HO5 := Lib.hid (own_grown HO3.out (Below.grows hb5) (by simp))
        have HB5 := Lib.hid (bstep HB3.out hb5)
        clear hb5 x0 x1 y0 y1 c0 c1 hq0 hq1
        go_wp2_with (at_builtin; refine wpList_append_own _ rfl _ _ 24 rfl Y2.heap.size 29 i0 (.agg #[.bool false, .string ⟨#[]⟩]) 2 24 Try.underlying24 hi0 hz0 hz1 hz2 rfl (by decide) v3 i (inV (VL ((L.map (k * ·)).take i))) rfl (HO5.out.alloc (.cells #[.bool false, .string (mg (x * k))] 29)) ⟨w5.heap.size, 0, none⟩ 1 1 [.bool false, .string (mg (x * k))] rfl rfl (World.news_of_block (cs := #[.bool false, .string (mg (x * k))]) (t := 29) (fr := (0, 0)) (heap_alloc_new w5 _)) (by simp [Value.oneCell']) (by unfold maxLen; omega) (by omega) (by have := HB5.out.size; simp; omega) ?_; intro v' w6 hown6 hgrow6 _)
        go_roundg (n - i)
        case rel =>
          refine ⟨i + 1, by go_num, by omega, by omega, ?_, by rw [HX.out]; exact hown6⟩
          exact (HB5.out.alloc HB5.out.size _).grown hgrow6 (by have := HB5.out.size; simp; omega) (fun k e => (own_base HO5.out e).1)
        case measure => have := HG.out; omega
      · obtain rfl : n = i := by omega
        have hB : decide ((n : Int) < n) = false := by simp
        have hln : (L.map (k * ·)).length = n := by rw [List.length_map, HNN.out]
        obtain ⟨g2, c2, rfl, hd1, hd2, hsl⟩ : ∃ g c, u11 = .slice (some ⟨g, 0, none⟩) n c ∧ n ≤ c ∧ c ≤ maxLen ∧ Sl wr (some ⟨g, 0, none⟩) (VL (L.map (k * ·))) := by
          have ho := HO.out
          rw [List.take_of_length_le (by omega)] at ho
          rcases id ho.2 with ⟨-, h0⟩ | ⟨g, c, cur, rfl, -, -, h1, h2, -⟩
          · have := H26.out; omega
          · refine ⟨g, c, rfl, h1, h2, ?_⟩
            refine Sl.of_own (c := c) (base := Y2.heap.size) ?_
            rw [VL_len, hln]
            exact ho
        have HBw := Lib.hid (bstep HB2.out HB.out)
        have HSw := Lib.hid (And.intro (HS2.out.below HB.out) hsl)
        have HLZ := Lib.hid (show (∀ z ∈ L, z < 2 ^ 64) ∧ (∀ z ∈ L.map (k * ·), z < 2 ^ 64) from ⟨fun z h => Nat.lt_of_lt_of_le (HZ.out z h) (by decide), fun z h => by
          obtain ⟨y, hy, rfl⟩ := List.mem_map.1 h
          have h1 := HZ.out y hy
          have h2 := Nat.mul_le_mul HK.out.2 (Nat.le_of_lt h1)
          show k * y < 2 ^ 64
          omega⟩)
        have HX1 := Lib.hid (fun W (h : Below wr.heap.size wr W) => len39_ok (g := g) (c := c) (m := m) HNN.out H26.out.1 (by omega) HCC.out.1 HCC.out.2 HLZ.out.1 HM8.out.1 (by have := HM8.out.2; omega) HFT.out W (HSw.out.1.below h))
        have HX2 := Lib.hid (fun W (h : Below wr.heap.size wr W) => len39_ok (g := g2) (c := c2) (m := m) hln H26.out.1 (by omega) hd1 hd2 HLZ.out.2 HM8.out.1 (by have := HM8.out.2; omega) HFT.out W (HSw.out.2.below h))
        have HX3 := Lib.hid (fun W (h : Below wr.heap.size wr W) => cos39_ok (g := g) (c := c) (m := m) HNN.out H26.out.1 (by omega) HCC.out.1 HCC.out.2 HLZ.out.1 HM8.out.1 (by have := HM8.out.2; omega) HFT.out W (HSw.out.1.below h))
        have HX4 := Lib.hid (fun W (h : Below wr.heap.size wr W) => cos39_ok (g := g2) (c := c2) (m := m) hln H26.out.1 (by omega) hd1 hd2 HLZ.out.2 HM8.out.1 (by have := HM8.out.2; omega) HFT.out W (HSw.out.2.below h))
        have hcl := limC_lt (Ws := L) (k := m) (by rw [HNN.out]; omega) (by have := HM8.out.2; omega) (by rw [HNN.out]; exact HFT.out) HLZ.out.1
        rw [limL_scale HK.out.1] at HX2
        rw [limC_scale HK.out.1] at HX4
        have hll := limL_len L m
        rw [HNN.out] at hll
        obtain ⟨lm, hlm⟩ : ∃ l, limL L m = l := ⟨_, rfl⟩
        obtain ⟨cm, hcm⟩ : ∃ l, limC L m = l := ⟨_, rfl⟩
        rw [hlm] at HX1 HX2 hll
        rw [hcm] at HX3 HX4 hcl
        have HLL := Lib.hid hll
        have HML := Lib.hid (fun W => cMulN (x := cm) (d := k) 82 10 hcl (Nat.lt_of_le_of_lt HK.out.2 (by decide)) (by decide) (by decide) W)
        have heq : eqI false (mg (k * cm)) false (mg (cm * k)) = true := by rw [Nat.mul_comm]; exact eqI_iff.2 ⟨rfl, rfl⟩
        clear hsl hd1 hd2 hln hlm hcm hll hcl HO HSw
        go_wp2_with fail
        refine (HX1.out _ (Below.refl _ _)).mono ?_
        rintro e w3 ⟨q1, rfl, hq1, hb3⟩
        have HC3 := Lib.hid hb3
        have HQ3 := Lib.hid hq1
        clear hb3 hq1 HX1
        go_wp2_with fail
        refine (HX2.out _ HC3.out).mono ?_
        rintro e w4 ⟨q2, rfl, hq2, hb4⟩
        have HC4 := Lib.hid (bstep HC3.out hb4)
        have HQ4 := Lib.hid (And.intro (HQ3.out.below hb4) hq2)
        clear hb4 hq2 HX2 HC3 HQ3
        go_wp2_with fail
        refine (HX3.out _ HC4.out).mono ?_
        rintro e w5 ⟨rfl, hb5⟩
        have hal : Below w5.heap.size w5 (w5.alloc (.cells #[.bool false, .string (mg cm)] 29)) := (Below.refl _ _).alloc (Nat.le_refl _) _
        have hst := hb5.trans (hal.mono hb5.size)
        have HC5 := Lib.hid (bstep HC4.out hst)
        have HQ5 := Lib.hid (And.intro (HQ4.out.1.below hst) (HQ4.out.2.below hst))
        have HP5 := Lib.hid (BC.new w5 w5.heap.size #[.bool false, .string (mg cm)] 29 rfl)
        clear hb5 hal hst HX3 HC4 HQ4
        go_wp2_with fail
        obtain ⟨b18, hb18⟩ : ∃ b, w5.heap.size = b := ⟨_, rfl⟩
        rw [hb18] at HP5 ⊢
        obtain ⟨Y5, hY5⟩ : ∃ X, w5.alloc (.cells #[.bool false, .string (mg cm)] 29) = X := ⟨_, rfl⟩
        rw [hY5] at HC5 HQ5 HP5 ⊢
        clear hY5 hb18
        refine (HX4.out _ HC5.out).mono ?_
        rintro e w6 ⟨rfl, hb6⟩
        have hal : Below w6.heap.size w6 (w6.alloc (.cells #[.bool false, .string (mg (k * cm))] 29)) := (Below.refl _ _).alloc (Nat.le_refl _) _
        have hst := hb6.trans (hal.mono hb6.size)
        have HC6 := Lib.hid (bstep HC5.out hst)
        have HQ6 := Lib.hid (And.intro (HQ5.out.1.below hst) (HQ5.out.2.below hst))
        have HP6 := Lib.hid (HP5.out.below hst)
        have HR6 := Lib.hid (BC.new w6 w6.heap.size #[.bool false, .string (mg (k * cm))] 29 rfl)
        clear hb6 hal hst HX4 HC5 HQ5 HP5
        go_wp2_with fail
        obtain ⟨b20, hb20⟩ : ∃ b, w6.heap.size = b := ⟨_, rfl⟩
        rw [hb20] at HR6 ⊢
        obtain ⟨Y6, hY6⟩ : ∃ X, w6.alloc (.cells #[.bool false, .string (mg (k * cm))] 29) = X := ⟨_, rfl⟩
        rw [hY6] at HC6 HQ6 HP6 HR6 ⊢
        clear hY6 hb20
        have HPk := Lib.hid (HPr.out.below HC6.out)
        have HBZ := Lib.hid (bstep HBw.out HC6.out)
        have HEQ := Lib.hid (fun W (h : Below Y6.heap.size Y6 W) => show Calls Try.prog 16 #[.slice (some ⟨q1, 0, none⟩) n n, .slice (some ⟨q2, 0, none⟩) n n] W fun e w' => e = .returned (.bool true) ∧ Below W.heap.size W w' from by
          have hh := eqInt_any (W0 := W) (n := n) (c := n) (c2 := n) (xs := lm.map fun (k : Nat) => (k : Int)) (ys := lm.map fun (k : Nat) => (k : Int)) (by rw [List.length_map]; exact HLL.out) (by rw [List.length_map]; exact HLL.out) (by omega) (fun i x hi => (HQ6.out.1.below h).at i x (by rw [natV_ints]; exact hi)) (fun i x hi => (HQ6.out.2.below h).at i x (by rw [natV_ints]; exact hi))
          have e : ((lm.map fun (k : Nat) => (k : Int)) == lm.map fun (k : Nat) => (k : Int)) = true := beq_self_eq_true (lm.map fun (k : Nat) => (k : Int))
          rw [e] at hh
          exact hh)
        haveI := cls_some Y6
        have f0 : ∀ u : Cl Y6, u.x.cell? ⟨b20, 0, none⟩ = some (.bool false) := fun u => (HR6.out.below u.h).at 0 _ rfl
        have f1 : ∀ u : Cl Y6, u.x.cell? ⟨b20, 1, none⟩ = some (.string (mg (k * cm))) := fun u => (HR6.out.below u.h).at 1 _ rfl
        have f2 : ∀ u : Cl Y6, u.x.cell? ⟨b18, 0, none⟩ = some (.bool false) := fun u => (HP6.out.below u.h).at 0 _ rfl
        have f3 : ∀ u : Cl Y6, u.x.cell? ⟨b18, 1, none⟩ = some (.string (mg cm)) := fun u => (HP6.out.below u.h).at 1 _ rfl
        have f4 : ∀ u : Cl Y6, u.x.cell? ⟨b10, 0, none⟩ = some (.bool false) := fun u => (HPk.out.below u.h).at 0 _ rfl
        have f5 : ∀ u : Cl Y6, u.x.cell? ⟨b10, 1, none⟩ = some (.string (mg k)) := fun u => (HPk.out.below u.h).at 1 _ rfl
        refine wp_region_cls (by kernel_rfl) ?_
        iterate 9 (go_big_quiet_step (fail))
        go_big_quiet_step ((go_at_call 16; exact quiet_cB (Below.refl _ _) HEQ.out _))
        iterate 5 (go_big_quiet_step (fail))
        go_big_quiet_step ((go_at_call 13; exact quiet_cls HML.out _))
        iterate 3 (go_big_quiet_step (fail))
        go_big_quiet_step ((go_at_call 11; exact quiet_cls HAW.out _))
        iterate 2 (go_big_quiet_step (fail))
        refine wpQuiet_nil ?_
        intro w7 hw7
        obtain ⟨u7, rfl⟩ := hw7
        go_wp2
        go_ret
        exact ⟨rfl, bstep HBZ.out u7.h⟩
end Go.Proofs.Gv
