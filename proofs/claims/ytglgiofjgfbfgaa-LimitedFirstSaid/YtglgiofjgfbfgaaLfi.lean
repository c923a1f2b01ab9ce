/- The law LimitedFirst. -/
import Derived.Test.YtglgiofjgfbfgaaLorP
import Derived.Test.YtglgiofjgfbfgaaLfkP
set_option linter.unusedSimpArgs false
set_option linter.unusedVariables false
namespace Go.Proofs.Gv
open Go Go.RowKit Go.Maps

/-- Two rows that grow side by side. -/
structure TwR (W0 W : World) (Bs i : Nat) (v u : Value) (xs ys : List Nat) : Prop where
  x : W.ownsRow Bs 3 1 v i (natV (xs.take i))
  y : W.ownsRow Bs 3 1 u i (natV (ys.take i))
  ne : ∀ g, v.ownBlock = some g → u.ownBlock ≠ some g
  b : Below Bs W0 W
  sz : Bs ≤ W.heap.size
theorem natV_take {xs : List Nat} {i d : Nat} (h : xs[i]? = some d) : natV (xs.take (i + 1)) = natV (xs.take i) ++ [.int .i64 (d : Int)] := by
  rw [List.take_add_one, h]; unfold natV; rw [List.map_append]; rfl
theorem gAlloc (w : World) (o : Obj) : w.grownBy (w.alloc o) none := World.grownBy_alloc w o none
theorem TwR.step {W0 W : World} {Bs i : Nat} {v u : Value} {xs ys : List Nat} (h : TwR W0 W Bs i v u xs ys) {d e : Nat} (hx : xs[i]? = some d) (hy : ys[i]? = some e)
    {W1 w4 W4 w5 : World} {g4 c4 g5 c5 : Nat} (a1 : W.grownBy W1 none) (o4 : w4.ownsRow Bs 3 1 (.slice (some ⟨g4, 0, none⟩) (i + 1) c4) (i + 1) (natV (xs.take i) ++ [.int .i64 (d : Int)])) (r4 : W1.grownBy w4 v.ownBlock) (t4 : v.ownBlock = some g4 ∨ g4 = W1.heap.size) (l4 : g4 < w4.heap.size)
    (a4 : w4.grownBy W4 none) (o5 : w5.ownsRow Bs 3 1 (.slice (some ⟨g5, 0, none⟩) (i + 1) c5) (i + 1) (natV (ys.take i) ++ [.int .i64 (e : Int)])) (r5 : W4.grownBy w5 u.ownBlock) (t5 : u.ownBlock = some g5 ∨ g5 = W4.heap.size) :
    TwR W0 w5 Bs (i + 1) (.slice (some ⟨g4, 0, none⟩) (i + 1) c4) (.slice (some ⟨g5, 0, none⟩) (i + 1) c5) xs ys := by
  have hu : ∀ g, u.ownBlock = some g → Bs ≤ g ∧ g < W.heap.size := fun g hg => own_base h.y hg
  have hv : ∀ g, v.ownBlock = some g → Bs ≤ g ∧ g < W.heap.size := fun g hg => own_base h.x hg
  have s1 := a1.size
  have s2 := r4.size
  have s3 := a4.size
  have s4 := r5.size
  have hne : u.ownBlock ≠ some g4 := fun hg => by
    rcases t4 with t4 | t4
    · exact h.ne g4 t4 hg
    · have := (hu g4 hg).2; omega
  refine ⟨?_, ?_, fun g hg hg2 => ?_, ?_, ?_⟩
  · rw [natV_take hx]
    exact own_grown (own_grown o4 a4 (by simp)) r5 (fun g hg => by cases hg; exact hne)
  · rw [natV_take hy]
    exact o5
  · cases hg
    cases hg2
    rcases t5 with t5 | t5
    · exact hne t5
    · omega
  · exact (((h.b.grown a1 h.sz (by simp)).grown r4 (by have := h.sz; omega) (fun g hg => (hv g hg).1)).grown a4 (by have := h.sz; omega) (by simp)).grown r5 (by have := h.sz; omega) (fun g hg => (hu g hg).1)
  · have := h.sz; omega
theorem heap_old (w : World) (o : Obj) {b : Nat} (h : b < w.heap.size) : (w.alloc o).heap[b]? = w.heap[b]? := by
  show (w.heap.push o)[b]? = _
  rw [Array.getElem?_push, if_neg (by omega)]
theorem heap_new (w : World) (o : Obj) {b : Nat} (h : w.heap.size = b) : (w.alloc o).heap[b]? = some o := by subst h; exact heap_alloc_new w o
theorem gAlloc2 (w : World) (o o' : Obj) : w.grownBy ((w.alloc o).alloc o') none := ⟨rfl, rfl, rfl, by simp; omega, fun k hk _ => (heap_old _ _ (by simp; omega)).trans (heap_old _ _ hk)⟩
set_option maxRecDepth 100000 in
set_option maxHeartbeats 8000000 in
theorem law_first39 (w : World) (a : Option Addr) (cap : Nat) (L : List Nat) (hc : L.length ≤ cap) (hcm : cap ≤ maxLen) (hz : ∀ x ∈ L, x < 2 ^ 32) (hS : USl w a L) (ha : a = none → L = [] ∧ cap = 0) (q : Int) (wq : (Lit.int .u8 q).wf = true)
    (a2 : Option Addr) (cap2 : Nat) (L2 : List Nat) (hc2 : L2.length ≤ cap2) (hcm2 : cap2 ≤ maxLen) (hz2 : ∀ x ∈ L2, x < 2 ^ 8) (hS2 : BSl w a2 L2) (ha2 : a2 = none → L2 = [] ∧ cap2 = 0) :
    Calls Try.prog 7 #[.slice a L.length cap, .int .u8 q, .slice a2 L2.length cap2] w fun e w' => e = .returned (.bool true) ∧ Below w.heap.size w w' := by
  obtain ⟨q, rfl, hq⟩ := u8_nat9 wq
  have HSM := Lib.hid (small39_any w a cap L hc hcm hz hS q hq)
  have HOT := Lib.hid (fun W n m h1 h2 h3 (hb : Below w.heap.size w W) => others39_any W a2 cap2 L2 hc2 hcm2 hz2 (hS2.below hb) n m h1 h2 h3)
  have HAW := Lib.hid (fun W => awake39_any W)
  have HZ := Lib.hid hz
  obtain ⟨b2, hb2⟩ : ∃ x, L2.length = x := ⟨_, rfl⟩
  rw [hb2] at HOT ⊢
  clear wq hS ha hz hc hcm hc2 hcm2 hz2 hS2 ha2 hb2
  by_cases hn : L.length < 2 ∨ 6 < L.length
  · go_enter Try.func7, Try.ntmps7
    go_wp2_with fail
    refine HSM.out.mono ?_
    rintro e w1 ⟨he, -, hb⟩
    obtain rfl := he hn
    go_wp2_with fail
    refine (HAW.out _).mono ?_
    rintro e w2 ⟨rfl, hb2⟩
    go_wp2
    go_ret
    exact ⟨rfl, bstep hb hb2⟩
  have h26 : 2 ≤ L.length ∧ L.length ≤ 6 := by omega
  obtain ⟨m, hm⟩ : ∃ m, q % 8 + 1 = m := ⟨_, rfl⟩
  have hm8 : 1 ≤ m ∧ m ≤ 8 := by omega
  obtain ⟨n, hnn⟩ : ∃ n, L.length = n := ⟨_, rfl⟩
  have HNN := Lib.hid hnn
  unfold SmQ at HSM
  rw [hm, hnn] at HSM
  rw [hnn] at h26 ⊢
  clear hn hm hnn hq
  by_cases hfit : n ≤ 2 ^ m
  case neg =>
    rw [decide_eq_false hfit] at HSM
    clear hfit
    go_enter Try.func7, Try.ntmps7
    go_wp2_with fail
    refine HSM.out.mono ?_
    rintro e w1 ⟨-, he, hb⟩
    obtain ⟨g, c, rfl, -⟩ := he h26
    go_wp2_with fail
    refine (HAW.out _).mono ?_
    rintro e w2 ⟨rfl, hb2⟩
    go_wp2
    go_ret
    exact ⟨rfl, bstep hb hb2⟩
  case pos =>
    rw [decide_eq_true hfit] at HSM
    have HLZ := Lib.hid (show ∀ z ∈ L, z < 2 ^ 64 from fun z h => Nat.lt_of_lt_of_le (HZ.out z h) (by decide))
    have hasc := lim_asc (Ws := L) (m := m) (by rw [HNN.out]; exact hfit)
    have hbest := lim_first (Ws := L) (l := othL n m L2) (m := m) (by rw [HNN.out]; exact hfit) (by rw [othL_len, HNN.out])
    have hob := othL_bd (n := n) hm8.1 L2
    have hbest2 := fun h => hbest (fun d hd => (hob d hd).2) h
    rw [← kr32 (by omega) (fun d hd => (hob d hd).2)] at hbest2
    have hB1 := limC_lt (Ws := L) (k := m) (by rw [HNN.out]; omega) (by omega) (by rw [HNN.out]; exact hfit) HLZ.out
    have hB2 := csP_bd (Ws := L) (ds := othL n m L2) (by rw [othL_len, HNN.out]) HLZ.out (fun d hd => by have := (hob d hd).2; omega) (by rw [HNN.out]; omega)
    have hll := limL_len L m
    rw [HNN.out] at hll
    have hol := othL_len n m L2
    have hordl := ordL_len L
    rw [HNN.out] at hordl
    clear hbest
    have HOB := Lib.hid hob
    have HOLT := Lib.hid (show ∀ o ∈ ordL L, o < n from fun o ho => by rw [← HNN.out]; exact ordL_lt ho)
    have hn6 : n ≤ 6 := h26.2
    have hm8' : m ≤ 8 := hm8.2
    have HM8 := Lib.hid hm8
    have H26 := Lib.hid h26
    have HFT := Lib.hid hfit
    go_enter Try.func7, Try.ntmps7
    go_wp2_with fail
    refine HSM.out.mono ?_
    rintro e w1 ⟨-, he, hb⟩
    obtain ⟨g, c, rfl, hc1, hc2, hsl⟩ := he h26
    have HB1 := Lib.hid hb
    have HX1 := Lib.hid (fun W (h : Below w1.heap.size w1 W) => len39_ok (g := g) (c := c) (m := m) HNN.out H26.out.1 (by omega) hc1 hc2 HLZ.out HM8.out.1 (by omega) HFT.out W (hsl.below h))
    have HX2 := Lib.hid (fun W (h : Below w1.heap.size w1 W) => cos39_ok (g := g) (c := c) (m := m) HNN.out H26.out.1 (by omega) hc1 hc2 HLZ.out HM8.out.1 (by omega) HFT.out W (hsl.below h))
    have HX4 := Lib.hid (fun q W (h : Below w1.heap.size w1 W) h2 => anyC39_ok (g := g) (c := c) (q := q) (ds := othL n m L2) HNN.out H26.out.1 (by omega) hc1 hc2 HLZ.out hol (fun d hd => by have := HOB.out d hd; omega) W (hsl.below h) h2)
    have HF2 := Lib.hid (fun q W h => mfits_any (g := q) (c := n) (ds := othL n m L2) hol (by omega) (fun d hd => by have := HOB.out d hd; omega) W h)
    have HOR := Lib.hid (fun W (h : Below w1.heap.size w1 W) => by
      have := order39_any ⟨g, 0, none⟩ c L (by rw [HNN.out]; omega) (by rw [HNN.out]; omega) HLZ.out W (hsl.below h)
      rw [HNN.out] at this
      exact this)
    have HOT1 := Lib.hid (fun W (h : Below w1.heap.size w1 W) => HOT.out W n m (by omega) HM8.out.1 (by omega) (bstep HB1.out h))
    obtain ⟨ca, hca⟩ : ∃ x, limC L m = x := ⟨_, rfl⟩
    obtain ⟨cb, hcb⟩ : ∃ x, csP (L.zip (othL n m L2)) = x := ⟨_, rfl⟩
    obtain ⟨lm, hlm⟩ : ∃ x, limL L m = x := ⟨_, rfl⟩
    obtain ⟨lo, hloo⟩ : ∃ x, othL n m L2 = x := ⟨_, rfl⟩
    obtain ⟨od, hod⟩ : ∃ x, ordL L = x := ⟨_, rfl⟩
    rw [hca] at HX2 hB1 hbest2
    rw [hcb] at HX4 hB2 hbest2
    rw [hlm] at HX1 hbest2 hasc hll
    rw [hloo] at HX4 HOT1 HF2 hbest2 hol
    rw [hod] at hbest2 hasc HOR HOLT hordl
    have HFST := Lib.hid hbest2
    have HASC := Lib.hid hasc
    have HMG := Lib.hid (show eqI false (mg cb) false (mg ca) = decide (cb = ca) from by
      by_cases e : cb = ca
      · subst e
        rw [decide_eq_true rfl]
        exact eqI_iff.2 ⟨rfl, rfl⟩
      · rw [decide_eq_false e]
        exact Bool.eq_false_iff.2 fun h => e (mg_inj9 (eqI_iff.1 h).2))
    have HLEN := Lib.hid (And.intro hll (And.intro hol hordl))
    clear he hb hsl hc1 hc2 hB1 hB2 hca hcb hlm hloo hod hll hol hordl hfit hob hbest2 hasc HSM HOT h26 hm8 HZ HLZ HOB HFT
    go_wp2_with fail
    refine (HX1.out _ (Below.refl _ _)).mono ?_
    rintro e w2 ⟨qq, rfl, hqq, hb2⟩
    have HQ2 := Lib.hid hqq
    have HD2 := Lib.hid hb2
    clear hqq hb2 HX1
    go_wp2_with fail
    refine (HX2.out _ HD2.out).mono ?_
    rintro e w3 ⟨rfl, hb3⟩
    have hal : Below w3.heap.size w3 (w3.alloc (.cells #[.bool false, .string (mg ca)] 29)) := (Below.refl _ _).alloc (Nat.le_refl _) _
    have hst := hb3.trans (hal.mono hb3.size)
    have HD3 := Lib.hid (bstep HD2.out hst)
    have HQ3 := Lib.hid (HQ2.out.below hst)
    have HP3 := Lib.hid (BC.new w3 w3.heap.size #[.bool false, .string (mg ca)] 29 rfl)
    clear hb3 hal hst HX2 HD2 HQ2
    go_upto_region 6 with fail
    obtain ⟨b12, hb12⟩ : ∃ b, w3.heap.size = b := ⟨_, rfl⟩
    rw [hb12] at HP3 ⊢
    obtain ⟨Y3, hY3⟩ : ∃ X, w3.alloc (.cells #[.bool false, .string (mg ca)] 29) = X := ⟨_, rfl⟩
    rw [hY3] at HD3 HQ3 HP3 ⊢
    clear hY3 hb12
    go_wp2_with fail
    refine (HOT1.out _ HD3.out).mono ?_
    rintro e w8 ⟨qo, rfl, hqo, hb8⟩
    have HD8 := Lib.hid (bstep HD3.out hb8)
    have HP8 := Lib.hid (HP3.out.below hb8)
    have HQ8 := Lib.hid (HQ3.out.below hb8)
    have HO8 := Lib.hid hqo
    clear hqo hb8 HD3 HP3 HQ3 HOT1
    go_wp2_with fail
    refine (HF2.out qo _ HO8.out).mono ?_
    rintro e w9 ⟨rfl, hb9⟩
    have HD9 := Lib.hid (bstep HD8.out hb9)
    have HP9 := Lib.hid (HP8.out.below hb9)
    have HQ9 := Lib.hid (HQ8.out.below hb9)
    have HO9 := Lib.hid (HO8.out.below hb9)
    clear hb9 HF2 HD8 HP8 HO8 HQ8
    go_wp2_with fail
    refine (HX4.out qo _ HD9.out HO9.out).mono ?_
    rintro e w10 ⟨rfl, hb10⟩
    have hal : Below w10.heap.size w10 (w10.alloc (.cells #[.bool false, .string (mg cb)] 29)) := (Below.refl _ _).alloc (Nat.le_refl _) _
    have hst := hb10.trans (hal.mono hb10.size)
    have HDA := Lib.hid (bstep HD9.out hst)
    have HPA := Lib.hid (HP9.out.below hst)
    have HQA := Lib.hid (HQ9.out.below hst)
    have HOA := Lib.hid (HO9.out.below hst)
    have HRA := Lib.hid (BC.new w10 w10.heap.size #[.bool false, .string (mg cb)] 29 rfl)
    clear hb10 hal hst HX4 HD9 HP9 HO9 HQ9
    go_upto_region 11 with fail
    obtain ⟨b17, hb17⟩ : ∃ b, w10.heap.size = b := ⟨_, rfl⟩
    rw [hb17] at HRA ⊢
    obtain ⟨YA, hYA⟩ : ∃ X, w10.alloc (.cells #[.bool false, .string (mg cb)] 29) = X := ⟨_, rfl⟩
    rw [hYA] at HDA HPA HRA HQA HOA ⊢
    clear hYA hb17
    go_wp2_with fail
    refine (HOR.out _ HDA.out).mono ?_
    rintro e w11 ⟨go, co, rfl, hgo, hbo, hb11⟩
    have HD0 := Lib.hid (bstep HDA.out hb11)
    have HP0 := Lib.hid (HPA.out.below hb11)
    have HQ0 := Lib.hid (HQA.out.below hb11)
    have HO0 := Lib.hid (HOA.out.below hb11)
    have HR0 := Lib.hid (HRA.out.below hb11)
    have HG0 := Lib.hid hbo
    clear hgo hbo hb11 HOR HDA HPA HQA HOA HRA
    obtain ⟨xs, hxs⟩ : ∃ x, od.map (lm.getD · 0) = x := ⟨_, rfl⟩
    obtain ⟨ys, hys⟩ : ∃ y, od.map (lo.getD · 0) = y := ⟨_, rfl⟩
    rw [hxs] at HFST HASC
    rw [hys] at HFST
    have HXY := Lib.hid (show (∀ i o : Nat, od[i]? = some o → ∃ d e : Nat, lm[o]? = some d ∧ lo[o]? = some e ∧ xs[i]? = some d ∧ ys[i]? = some e ∧ o < n) ∧ xs.length = n ∧ ys.length = n from by
      obtain ⟨e1, e2, e3⟩ := HLEN.out
      refine ⟨fun i o h => ?_, by rw [← hxs, List.length_map, e3], by rw [← hys, List.length_map, e3]⟩
      have hon := HOLT.out o (List.mem_of_getElem? h)
      refine ⟨lm[o]'(by omega), lo[o]'(by omega), List.getElem?_eq_getElem _, List.getElem?_eq_getElem _, ?_, ?_, hon⟩
      · rw [← hxs, List.getElem?_map, h]
        show some (lm.getD o 0) = _
        rw [List.getD_eq_getElem?_getD, List.getElem?_eq_getElem (by omega)]; rfl
      · rw [← hys, List.getElem?_map, h]
        show some (lo.getD o 0) = _
        rw [List.getD_eq_getElem?_getD, List.getElem?_eq_getElem (by omega)]; rfl)
    clear hxs hys HOLT
    obtain ⟨Bs, hBs⟩ : ∃ b, w11.heap.size = b := ⟨_, rfl⟩
    have HBS := Lib.hid hBs
    obtain ⟨i0, hi0, hz0, hz1, hz2⟩ := info_parts infoN
    go_wp2_with fail
    go_loopg [19, 20, 81] (n + 1) (fun gg v19 v20 v81 wr => ∃ i : Nat, v81 = .int .i64 (i : Int) ∧ i ≤ n ∧ n - i < gg ∧ TwR w11 wr Bs i v19 v20 xs ys)
    case atStart => exact ⟨0, rfl, Nat.zero_le _, by omega, own_nil _ _ _ _, own_nil _ _ _ _, fun g hg => (by cases hg), by rw [← hBs]; exact Below.refl _ _, by rw [hBs]; exact Nat.le_refl _⟩
    case round =>
      obtain ⟨i, rfl, hi, hig, htw⟩ := hrel
      have HGG := Lib.hid hig
      have HTW := Lib.hid htw
      clear hig htw
      by_cases hlt : i < n
      · have hltI : (i : Int) < n := by omega
        obtain ⟨o, ho⟩ : ∃ o, od[i]? = some o := ⟨od[i]'(by rw [HLEN.out.2.2]; exact hlt), List.getElem?_eq_getElem _⟩
        obtain ⟨d, e, e1, e2, e3, e4, e5⟩ := HXY.out.1 i o ho
        have hoI : (o : Int) < n := by omega
        have hbl : Below w11.heap.size w11 wr := by rw [HBS.out]; exact HTW.out.b
        have c0 := (HG0.out.below hbl).at i _ (natV_is ho)
        have c1 := (HQ0.out.below hbl).at o _ (natV_is e1)
        have c2 := (HO0.out.below hbl).at o _ (natV_is e2)
        have HST := Lib.hid (fun W1 w4 W4 w5 g4 c4 g5 c5 a1 o4 r4 t4 l4 a4 o5 r5 t5 => HTW.out.step (W1 := W1) (w4 := w4) (W4 := W4) (w5 := w5) (g4 := g4) (c4 := c4) (g5 := g5) (c5 := c5) e3 e4 a1 o4 r4 t4 l4 a4 o5 r5 t5)
        have hqq : qq < Bs := by have := HQ0.out.lt; omega
        have hqo : qo < Bs := by have := HO0.out.lt; omega
        clear ho e1 e2 e3 e4 hbl
        obtain ⟨v, rfl⟩ : ∃ X, X = u19 := ⟨_, rfl⟩
        obtain ⟨u, rfl⟩ : ∃ X, X = u20 := ⟨_, rfl⟩
        go_upto_region 17 with fail
        clear c0
        have HQW := Lib.hid (show qq < wr.heap.size ∧ qo < wr.heap.size from by have := HTW.out.sz; omega)
        have HNV := Lib.hid (show some qq ≠ v.ownBlock ∧ some qo ≠ v.ownBlock from ⟨fun e => by have := (own_base HTW.out.x e.symm).1; omega, fun e => by have := (own_base HTW.out.x e.symm).1; omega⟩)
        have HNU := Lib.hid (show some qq ≠ u.ownBlock ∧ some qo ≠ u.ownBlock from ⟨fun e => by have := (own_base HTW.out.y e.symm).1; omega, fun e => by have := (own_base HTW.out.y e.symm).1; omega⟩)
        have HE5 := Lib.hid e5
        clear hqq hqo e5 hBs
        go_region_held3 (fun w' => w'.cell? ⟨qq, o, none⟩ = some (.int .i64 (d : Int)) ∧ w'.cell? ⟨qo, o, none⟩ = some (.int .i64 (e : Int))) (go_keep) (first
          | (refine step_append_lies _ (by rfl) _ _ _ (by rfl) Bs 3 i0 _ 1 8 Try.underlying32 hi0 hz0 hz1 hz2 rfl (by omega) v i (natV (xs.take i)) (by rfl) ((HTW.out.x.alloc _).drew) ⟨wr.heap.size, 0, none⟩ 1 1 [.int .i64 (d : Int)] (by rfl) (by rfl) (World.news_of_block (cs := #[.int .i64 (d : Int)]) (t := 3) (fr := (0, 0)) (heap_alloc_new wr _)) (by simp [Value.oneCell']) (by omega) (by unfold maxLen; omega) (by omega) (by have := HTW.out.sz; simp; omega) (wr.heap.size + 1) (by simp) ?_; intro g4 cap4 w4 hown4 hgrow4 hat4 hlt4; have p1 := (hgrow4.cell_far ⟨qq, o, none⟩ (by have := HQW.out; simp; omega) HNV.out.1).trans ((World.cell?_alloc_lt _ _ _ HQW.out.1).trans c1); have p2 := (hgrow4.cell_far ⟨qo, o, none⟩ (by have := HQW.out; simp; omega) HNV.out.2).trans ((World.cell?_alloc_lt _ _ _ HQW.out.2).trans c2); have HO4 := Lib.hid hown4; have HG4 := Lib.hid hgrow4; have HT4 := Lib.hid hat4; have HL4 := Lib.hid hlt4; have HY4 := Lib.hid (own_grown ((HTW.out.y.alloc _).drew) hgrow4 (fun g e1 e2 => HTW.out.ne g e2 e1)); have HS4 := Lib.hid hgrow4.size; clear hown4 hgrow4 hat4 hlt4)
          | (refine step_append_lies _ (by rfl) _ _ _ (by rfl) Bs 3 i0 _ 1 8 Try.underlying32 hi0 hz0 hz1 hz2 rfl (by omega) v i (natV (xs.take i)) (by rfl) (((HTW.out.x.alloc _).alloc _).drew) ⟨wr.heap.size, 0, none⟩ 1 1 [.int .i64 (d : Int)] (by rfl) (by rfl) (World.news_of_block (cs := #[.int .i64 (d : Int)]) (t := 3) (fr := (0, 0)) ((heap_old _ _ (by simp)).trans (heap_alloc_new wr _))) (by simp [Value.oneCell']) (by omega) (by unfold maxLen; omega) (by omega) (by have := HTW.out.sz; simp; omega) (wr.heap.size + 1 + 1) (by simp) ?_; intro g4 cap4 w4 hown4 hgrow4 hat4 hlt4; have p1 := (hgrow4.cell_far ⟨qq, o, none⟩ (by have := HQW.out; simp; omega) HNV.out.1).trans (((World.cell?_alloc_lt _ _ _ (by have := HQW.out.1; simp; omega)).trans (World.cell?_alloc_lt _ _ _ HQW.out.1)).trans c1); have p2 := (hgrow4.cell_far ⟨qo, o, none⟩ (by have := HQW.out; simp; omega) HNV.out.2).trans (((World.cell?_alloc_lt _ _ _ (by have := HQW.out.2; simp; omega)).trans (World.cell?_alloc_lt _ _ _ HQW.out.2)).trans c2); have HO4 := Lib.hid hown4; have HG4 := Lib.hid hgrow4; have HT4 := Lib.hid hat4; have HL4 := Lib.hid hlt4; have HY4 := Lib.hid (own_grown (((HTW.out.y.alloc _).alloc _).drew) hgrow4 (fun g e1 e2 => HTW.out.ne g e2 e1)); have HS4 := Lib.hid hgrow4.size; have HN4 := Lib.hid ((hgrow4.block (wr.heap.size + 1) (by simp) (fun e1 => by have := (own_base HTW.out.x e1.symm).2; omega)).trans (heap_new _ _ (by simp))); clear hown4 hgrow4 hat4 hlt4)
          | (refine step_append_lies _ (by rfl) _ _ _ (by rfl) Bs 3 i0 _ 1 8 Try.underlying32 hi0 hz0 hz1 hz2 rfl (by omega) v i (natV (xs.take i)) (by rfl) (((HTW.out.x.alloc _).alloc _).drew) ⟨wr.heap.size + 1, 0, none⟩ 1 1 [.int .i64 (d : Int)] (by rfl) (by rfl) (World.news_of_block (cs := #[.int .i64 (d : Int)]) (t := 3) (fr := (0, 0)) (heap_new _ _ (by simp))) (by simp [Value.oneCell']) (by omega) (by unfold maxLen; omega) (by omega) (by have := HTW.out.sz; simp; omega) (wr.heap.size + 1 + 1) (by simp) ?_; intro g4 cap4 w4 hown4 hgrow4 hat4 hlt4; have p1 := (hgrow4.cell_far ⟨qq, o, none⟩ (by have := HQW.out; simp; omega) HNV.out.1).trans (((World.cell?_alloc_lt _ _ _ (by have := HQW.out.1; simp; omega)).trans (World.cell?_alloc_lt _ _ _ HQW.out.1)).trans c1); have p2 := (hgrow4.cell_far ⟨qo, o, none⟩ (by have := HQW.out; simp; omega) HNV.out.2).trans (((World.cell?_alloc_lt _ _ _ (by have := HQW.out.2; simp; omega)).trans (World.cell?_alloc_lt _ _ _ HQW.out.2)).trans c2); have HO4 := Lib.hid hown4; have HG4 := Lib.hid hgrow4; have HT4 := Lib.hid hat4; have HL4 := Lib.hid hlt4; have HY4 := Lib.hid (own_grown (((HTW.out.y.alloc _).alloc _).drew) hgrow4 (fun g e1 e2 => HTW.out.ne g e2 e1)); have HS4 := Lib.hid hgrow4.size; have HN4 := Lib.hid ((hgrow4.block (wr.heap.size) (by simp; omega) (fun e1 => by have := (own_base HTW.out.x e1.symm).2; omega)).trans ((heap_old _ _ (by simp)).trans (heap_alloc_new wr _))); clear hown4 hgrow4 hat4 hlt4)
          | (refine step_append_lies _ (by rfl) _ _ _ (by rfl) Bs 3 i0 _ 1 8 Try.underlying32 hi0 hz0 hz1 hz2 rfl (by omega) u i (natV (ys.take i)) (by rfl) (HY4.out.alloc _) ⟨w4.heap.size, 0, none⟩ 1 1 [.int .i64 (e : Int)] (by rfl) (by rfl) (World.news_of_block (cs := #[.int .i64 (e : Int)]) (t := 3) (fr := (0, 0)) (heap_alloc_new w4 _)) (by simp [Value.oneCell']) (by omega) (by unfold maxLen; omega) (by omega) (by have := HTW.out.sz; have := HS4.out; simp at *; omega) (w4.heap.size + 1) (by simp) ?_; intro g5 cap5 w5 hown5 hgrow5 hat5 hlt5; have HO5 := Lib.hid hown5; have HG5 := Lib.hid hgrow5; have HT5 := Lib.hid hat5; have q1 := (hgrow5.cell_far ⟨qq, o, none⟩ (by have := HQW.out; have := HS4.out; simp at *; omega) HNU.out.1).trans ((World.cell?_alloc_lt _ _ _ (by have := HQW.out; have := HS4.out; simp at *; omega)).trans p1); have q2 := (hgrow5.cell_far ⟨qo, o, none⟩ (by have := HQW.out; have := HS4.out; simp at *; omega) HNU.out.2).trans ((World.cell?_alloc_lt _ _ _ (by have := HQW.out; have := HS4.out; simp at *; omega)).trans p2); clear hown5 hgrow5 hat5 hlt5)
          | (refine step_append_lies _ (by rfl) _ _ _ (by rfl) Bs 3 i0 _ 1 8 Try.underlying32 hi0 hz0 hz1 hz2 rfl (by omega) u i (natV (ys.take i)) (by rfl) (HY4.out) ⟨wr.heap.size + 1, 0, none⟩ 1 1 [.int .i64 (e : Int)] (by rfl) (by rfl) (World.news_of_block (cs := #[.int .i64 (e : Int)]) (t := 3) (fr := (0, 0)) (HN4.out)) (by simp [Value.oneCell']) (by omega) (by unfold maxLen; omega) (by omega) (by have := HTW.out.sz; have := HS4.out; simp at *; omega) (w4.heap.size) (rfl) ?_; intro g5 cap5 w5 hown5 hgrow5 hat5 hlt5; have HO5 := Lib.hid hown5; have HG5 := Lib.hid hgrow5; have HT5 := Lib.hid hat5; have q1 := (hgrow5.cell_far ⟨qq, o, none⟩ (by have := HQW.out; have := HS4.out; simp at *; omega) HNU.out.1).trans p1; have q2 := (hgrow5.cell_far ⟨qo, o, none⟩ (by have := HQW.out; have := HS4.out; simp at *; omega) HNU.out.2).trans p2; clear hown5 hgrow5 hat5 hlt5)
          | (refine step_append_lies _ (by rfl) _ _ _ (by rfl) Bs 3 i0 _ 1 8 Try.underlying32 hi0 hz0 hz1 hz2 rfl (by omega) u i (natV (ys.take i)) (by rfl) (HY4.out) ⟨wr.heap.size, 0, none⟩ 1 1 [.int .i64 (e : Int)] (by rfl) (by rfl) (World.news_of_block (cs := #[.int .i64 (e : Int)]) (t := 3) (fr := (0, 0)) (HN4.out)) (by simp [Value.oneCell']) (by omega) (by unfold maxLen; omega) (by omega) (by have := HTW.out.sz; have := HS4.out; simp at *; omega) (w4.heap.size) (rfl) ?_; intro g5 cap5 w5 hown5 hgrow5 hat5 hlt5; have HO5 := Lib.hid hown5; have HG5 := Lib.hid hgrow5; have HT5 := Lib.hid hat5; have q1 := (hgrow5.cell_far ⟨qq, o, none⟩ (by have := HQW.out; have := HS4.out; simp at *; omega) HNU.out.1).trans p1; have q2 := (hgrow5.cell_far ⟨qo, o, none⟩ (by have := HQW.out; have := HS4.out; simp at *; omega) HNU.out.2).trans p2; clear hown5 hgrow5 hat5 hlt5))
        all_goals go_wp2_with fail
        all_goals go_roundg (n - i)
        all_goals first
          | (have := HGG.out; omega)
          | (refine ⟨i + 1, by go_num, by omega, by omega, HST.out _ _ _ _ _ _ _ _ (by first | exact gDrewB (gAlloc _ _) | exact gDrewB (gAlloc2 _ _ _)) HO4.out HG4.out (by simpa using HT4.out) HL4.out (by first | exact gAlloc _ _ | exact gRow (Below.refl _ _) none) HO5.out HG5.out (by simpa using HT5.out)⟩
             done)
      · obtain rfl : n = i := by omega
        have hB : decide ((n : Int) < n) = false := by simp
        have hbl : Below w11.heap.size w11 wr := by rw [HBS.out]; exact HTW.out.b
        obtain ⟨g1, k1, rfl, hg1, hl1⟩ := HTW.out.x.form (by have := H26.out; omega)
        obtain ⟨g2, k2, rfl, hg2, hl2⟩ := HTW.out.y.form (by have := H26.out; omega)
        have hx0 := BC.of_own HTW.out.x
        have hy0 := BC.of_own HTW.out.y
        rw [List.take_of_length_le (by rw [HXY.out.2.1]; exact Nat.le_refl _)] at hx0
        rw [List.take_of_length_le (by rw [HXY.out.2.2]; exact Nat.le_refl _)] at hy0
        have HSO := Lib.hid (sortd_any (c := k1) HXY.out.2.1 (by omega) HASC.out wr hx0)
        have HX0 := Lib.hid hx0
        have HY0 := Lib.hid hy0
        have HPZ := Lib.hid (HP0.out.below hbl)
        have HRZ := Lib.hid (HR0.out.below hbl)
        have HBZ := Lib.hid (bstep HB1.out (bstep HD0.out hbl))
        clear hx0 hy0 hbl hg1 hl1 hg2 hl2
        go_wp2_with fail
        refine HSO.out.mono ?_
        rintro e w12 ⟨rfl, hb12⟩
        have HX1 := Lib.hid (HX0.out.below hb12)
        have HY1 := Lib.hid (HY0.out.below hb12)
        have HB2 := Lib.hid (bstep HBZ.out hb12)
        have HPY := Lib.hid (HPZ.out.below hb12)
        have HRY := Lib.hid (HRZ.out.below hb12)
        clear hb12
        have x0 := HPY.out.at 0 _ rfl
        have x1 := HPY.out.at 1 _ rfl
        have x2 := HRY.out.at 0 _ rfl
        have x3 := HRY.out.at 1 _ rfl
        have hmg := HMG.out
        by_cases hft : krL 32 lo ≤ 2 ^ 32
        · rw [decide_eq_true hft]
          by_cases hce : cb = ca
          · rw [decide_eq_true hce] at hmg
            have HCM := Lib.hid (lexc_any (c := k1) (c2 := k2) HXY.out.2.1 HXY.out.2.2 (by omega) (HFST.out hft hce) w12 HX1.out HY1.out)
            clear hft hce
            go_wp2_with fail
            refine HCM.out.mono ?_
            rintro e w13 ⟨⟨r, rfl, hr⟩, ew⟩
            obtain rfl := ew
            go_wp2_with fail
            refine (HAW.out _).mono ?_
            rintro e w14 ⟨rfl, hb14⟩
            go_wp2
            go_ret
            exact ⟨rfl, bstep HB2.out hb14⟩
          · rw [decide_eq_false hce] at hmg
            clear hft hce
            go_wp2_with fail
            refine (HAW.out _).mono ?_
            rintro e w14 ⟨rfl, hb14⟩
            go_wp2
            go_ret
            exact ⟨rfl, bstep HB2.out hb14⟩
        · rw [decide_eq_false hft]
          clear hft
          go_wp2_with fail
          refine (HAW.out _).mono ?_
          rintro e w14 ⟨rfl, hb14⟩
          go_wp2
          go_ret
          exact ⟨rfl, bstep HB2.out hb14⟩
end Go.Proofs.Gv
