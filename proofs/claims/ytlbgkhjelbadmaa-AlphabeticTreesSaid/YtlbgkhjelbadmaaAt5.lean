/- AlphabeticTrees: Lengths, Cost, Table and Monotone answer as the reference does. -/
import Derived.Test.YtlbgkhjelbadmaaAt4
import Derived.Test.YtlbgkhjelbadmaaAw40
import Derived.Test.YtlbgkhjelbadmaaAcsP
set_option linter.unusedSimpArgs false
set_option linter.unusedVariables false
namespace Go.Proofs.Gv
open Go Go.RowKit Go.Maps

set_option maxRecDepth 100000 in
theorem nil12_any (w : World) : Calls Try.prog 34 #[.slice none 0 0, .slice none 0 0] w fun e w' => e = .returned (.bool true) ∧ Below w.heap.size w w' := by
  go_enter Try.func34, Try.ntmps34
  go_wp2
  go_loopg [5] 1 (fun gg v5 wr => gg = 1 ∧ v5 = .int .i64 0 ∧ wr = w)
  case atStart => exact ⟨rfl, rfl, rfl⟩
  case round =>
    obtain ⟨-, rfl, rfl⟩ := hrel
    go_wp2
    go_ret
    exact ⟨rfl, Below.refl _ _⟩
set_option maxRecDepth 100000 in
theorem nil04_any (w : World) : Calls Try.prog 35 #[.slice none 0 0, .slice none 0 0] w fun e w' => e = .returned (.bool true) ∧ Below w.heap.size w w' := by
  go_enter Try.func35, Try.ntmps35
  go_wp2
  go_loopg [5] 1 (fun gg v5 wr => gg = 1 ∧ v5 = .int .i64 0 ∧ wr = w)
  case atStart => exact ⟨rfl, rfl, rfl⟩
  case round =>
    obtain ⟨-, rfl, rfl⟩ := hrel
    go_wp2
    go_ret
    exact ⟨rfl, Below.refl _ _⟩
set_option maxRecDepth 100000 in
set_option maxHeartbeats 4000000 in
theorem trees_walk (x : Value) (w : World) (E : Int) (C : Nat) (F : Bool) (Q1 Q3 : World → Value → Prop)
    (hGr : Calls Try.prog 28 #[x] w fun e w' => e = .returned (.bool false) ∧ w' = w)
    (h1 : ∀ W, Below w.heap.size w W → Calls Try.prog 17 #[x] W fun e w' => ∃ v, e = .returned (.tuple #[v, .int .i64 E]) ∧ Q1 w' v ∧ Below W.heap.size W w')
    (h2 : ∀ W, Below w.heap.size w W → Calls Try.prog 29 #[x] W fun e w' => ∃ v, e = .returned (.tuple #[v, .int .i64 E]) ∧ Q1 w' v ∧ Below W.heap.size W w')
    (hq1 : ∀ W W' v, Q1 W v → Below W.heap.size W W' → Q1 W' v)
    (hs1 : ∀ W u v, Q1 W u → Q1 W v → Calls Try.prog 34 #[u, v] W fun e w' => e = .returned (.bool true) ∧ Below W.heap.size W w')
    (h3 : ∀ W, Below w.heap.size w W → Calls Try.prog 18 #[x] W fun e w' => e = .returned (.tuple #[.agg #[.bool false, .string (mg C)], .int .i64 E]) ∧ Below W.heap.size W w')
    (h4 : ∀ W, Below w.heap.size w W → Calls Try.prog 30 #[x] W fun e w' => e = .returned (.tuple #[.agg #[.bool false, .string (mg C)], .int .i64 E]) ∧ Below W.heap.size W w')
    (h5 : ∀ W, Below w.heap.size w W → Calls Try.prog 21 #[x] W fun e w' => ∃ v, e = .returned (.tuple #[v, .int .i64 E]) ∧ Q3 w' v ∧ Below W.heap.size W w')
    (h6 : ∀ W, Below w.heap.size w W → Calls Try.prog 31 #[x] W fun e w' => ∃ v, e = .returned (.tuple #[v, .int .i64 E]) ∧ Q3 w' v ∧ Below W.heap.size W w')
    (hq3 : ∀ W W' v, Q3 W v → Below W.heap.size W W' → Q3 W' v)
    (hs3 : ∀ W u v, Q3 W u → Q3 W v → Calls Try.prog 35 #[u, v] W fun e w' => e = .returned (.bool true) ∧ Below W.heap.size W w')
    (h7 : ∀ W, Below w.heap.size w W → Calls Try.prog 32 #[x] W fun e w' => e = .returned (.tuple #[.bool F, .int .i64 E]) ∧ Below W.heap.size W w')
    (h8 : ∀ W, Below w.heap.size w W → Calls Try.prog 33 #[x] W fun e w' => e = .returned (.tuple #[.bool F, .int .i64 E]) ∧ Below W.heap.size W w') :
    Calls Try.prog 6 #[x] w fun e w' => e = .returned (.bool true) ∧ Below w.heap.size w w' := by
  have HGR := Lib.hid hGr
  have H1 := Lib.hid h1
  have H2 := Lib.hid h2
  have H3 := Lib.hid h3
  have H4 := Lib.hid h4
  have H5 := Lib.hid h5
  have H6 := Lib.hid h6
  have H7 := Lib.hid h7
  have H8 := Lib.hid h8
  have HS1 := Lib.hid hs1
  have HS3 := Lib.hid hs3
  have HQ1 := Lib.hid hq1
  have HQ3 := Lib.hid hq3
  have HAW := Lib.hid (fun W => awake40_any W)
  have hEE : (E == E) = true := by simp
  have hFF : (F == F) = true := by simp
  have heq : eqI false (mg C) false (mg C) = true := eq_mg C
  clear hGr h1 h2 h3 h4 h5 h6 h7 h8 hs1 hs3 hq1 hq3
  go_enter Try.func6, Try.ntmps6
  go_wp2_with fail
  refine HGR.out.mono ?_
  rintro e w1 ⟨rfl, rfl⟩
  go_wp2_with fail
  refine (H1.out w1 (Below.refl _ _)).mono ?_
  rintro e w2 ⟨v1, rfl, hv1, hb2⟩
  have HB2 := Lib.hid hb2
  have HV1 := Lib.hid hv1
  clear hb2 hv1
  go_wp2_with fail
  refine (H2.out w2 HB2.out).mono ?_
  rintro e w3 ⟨v2, rfl, hv2, hb3⟩
  have HB3 := Lib.hid (bstep HB2.out hb3)
  have HV1b := Lib.hid (HQ1.out _ _ _ HV1.out hb3)
  have HV2 := Lib.hid hv2
  clear hb3 hv2 HB2 HV1
  go_wp2_with fail
  refine (H3.out w3 HB3.out).mono ?_
  rintro e w4 ⟨rfl, hb4⟩
  have hal4 : Below w4.heap.size w4 (w4.alloc (.cells #[.bool false, .string (mg C)] 37)) := (Below.refl _ _).alloc (Nat.le_refl _) _
  have hst4 := hb4.trans (hal4.mono hb4.size)
  have HP := Lib.hid (BC.new w4 w4.heap.size #[.bool false, .string (mg C)] 37 rfl)
  have HB4 := Lib.hid (bstep HB3.out hst4)
  have HV1c := Lib.hid (HQ1.out _ _ _ HV1b.out hst4)
  have HV2c := Lib.hid (HQ1.out _ _ _ HV2.out hst4)
  clear hb4 hal4 hst4 HB3 HV1b HV2
  go_wp2_with fail
  obtain ⟨P, hP⟩ : ∃ P, w4.heap.size = P := ⟨_, rfl⟩
  rw [hP] at HP ⊢
  obtain ⟨Y4, hY4⟩ : ∃ X, w4.alloc (.cells #[.bool false, .string (mg C)] 37) = X := ⟨_, rfl⟩
  rw [hY4] at HP HB4 HV1c HV2c ⊢
  clear hY4 hP
  refine (H4.out Y4 HB4.out).mono ?_
  rintro e w5 ⟨rfl, hb5⟩
  have hal5 : Below w5.heap.size w5 (w5.alloc (.cells #[.bool false, .string (mg C)] 37)) := (Below.refl _ _).alloc (Nat.le_refl _) _
  have hst5 := hb5.trans (hal5.mono hb5.size)
  have HR := Lib.hid (BC.new w5 w5.heap.size #[.bool false, .string (mg C)] 37 rfl)
  have HP5 := Lib.hid (HP.out.below hst5)
  have HB5 := Lib.hid (bstep HB4.out hst5)
  have HV1d := Lib.hid (HQ1.out _ _ _ HV1c.out hst5)
  have HV2d := Lib.hid (HQ1.out _ _ _ HV2c.out hst5)
  clear hb5 hal5 hst5 HB4 HV1c HV2c HP
  go_wp2_with fail
  obtain ⟨R, hR⟩ : ∃ P, w5.heap.size = P := ⟨_, rfl⟩
  rw [hR] at HR ⊢
  obtain ⟨Y5, hY5⟩ : ∃ X, w5.alloc (.cells #[.bool false, .string (mg C)] 37) = X := ⟨_, rfl⟩
  rw [hY5] at HR HP5 HB5 HV1d HV2d ⊢
  clear hY5 hR
  refine (H5.out Y5 HB5.out).mono ?_
  rintro e w6 ⟨v3, rfl, hv3, hb6⟩
  have HV3 := Lib.hid hv3
  have HB6 := Lib.hid (bstep HB5.out hb6)
  have HP6 := Lib.hid (HP5.out.below hb6)
  have HR6 := Lib.hid (HR.out.below hb6)
  have HV1e := Lib.hid (HQ1.out _ _ _ HV1d.out hb6)
  have HV2e := Lib.hid (HQ1.out _ _ _ HV2d.out hb6)
  clear hv3 hb6 HB5 HP5 HR HV1d HV2d
  go_wp2_with fail
  refine (H6.out w6 HB6.out).mono ?_
  rintro e w7 ⟨v4, rfl, hv4, hb7⟩
  have HV4 := Lib.hid hv4
  have HV3b := Lib.hid (HQ3.out _ _ _ HV3.out hb7)
  have HB7 := Lib.hid (bstep HB6.out hb7)
  have HP7 := Lib.hid (HP6.out.below hb7)
  have HR7 := Lib.hid (HR6.out.below hb7)
  have HV1f := Lib.hid (HQ1.out _ _ _ HV1e.out hb7)
  have HV2f := Lib.hid (HQ1.out _ _ _ HV2e.out hb7)
  clear hv4 hb7 HB6 HP6 HR6 HV1e HV2e HV3
  go_wp2_with fail
  refine (H7.out w7 HB7.out).mono ?_
  rintro e w8 ⟨rfl, hb8⟩
  have HB8 := Lib.hid (bstep HB7.out hb8)
  have HP8 := Lib.hid (HP7.out.below hb8)
  have HR8 := Lib.hid (HR7.out.below hb8)
  have HV1g := Lib.hid (HQ1.out _ _ _ HV1f.out hb8)
  have HV2g := Lib.hid (HQ1.out _ _ _ HV2f.out hb8)
  have HV3g := Lib.hid (HQ3.out _ _ _ HV3b.out hb8)
  have HV4g := Lib.hid (HQ3.out _ _ _ HV4.out hb8)
  clear hb8 HB7 HP7 HR7 HV1f HV2f HV3b HV4
  go_wp2_with fail
  refine (H8.out w8 HB8.out).mono ?_
  rintro e w9 ⟨rfl, hb9⟩
  have HB9 := Lib.hid (bstep HB8.out hb9)
  have HP9 := Lib.hid (HP8.out.below hb9)
  have HR9 := Lib.hid (HR8.out.below hb9)
  have HX := Lib.hid (HS1.out w9 v1 v2 (HQ1.out _ _ _ HV1g.out hb9) (HQ1.out _ _ _ HV2g.out hb9))
  have HV3h := Lib.hid (HQ3.out _ _ _ HV3g.out hb9)
  have HV4h := Lib.hid (HQ3.out _ _ _ HV4g.out hb9)
  clear hb9 HB8 HP8 HR8 HV1g HV2g HV3g HV4g
  go_wp2_with fail
  refine HX.out.mono ?_
  rintro e w10 ⟨rfl, hb10⟩
  have HB10 := Lib.hid (bstep HB9.out hb10)
  have HX2 := Lib.hid (HS3.out w10 v3 v4 (HQ3.out _ _ _ HV3h.out hb10) (HQ3.out _ _ _ HV4h.out hb10))
  have b1 := HP9.out.below hb10
  have b2 := HR9.out.below hb10
  have p0 := b1.at 0 _ rfl
  have p1 := b1.at 1 _ rfl
  have r0 := b2.at 0 _ rfl
  have r1 := b2.at 1 _ rfl
  clear hb10 b1 b2 HB9 HX HV3h HV4h HP9 HR9
  go_wp2_with fail
  refine HX2.out.mono ?_
  rintro e w11 ⟨rfl, hb11⟩
  have HB11 := Lib.hid (bstep HB10.out hb11)
  clear hb11 p0 p1 r0 r1
  go_wp2_with fail
  refine (HAW.out _).mono ?_
  rintro e w12 ⟨rfl, hb12⟩
  have HB12 := Lib.hid (bstep HB11.out hb12)
  clear hb12
  go_wp2
  go_ret
  exact ⟨rfl, HB12.out⟩
set_option maxRecDepth 100000 in
set_option maxHeartbeats 4000000 in
theorem law_trees (w : World) (a : Option Addr) (cap : Nat) (L : List (Bool × ByteArray)) (hL : L.length ≤ maxLen) (hz : ∀ x ∈ L, x.2.size ≤ maxLen) (hS : Sl w a L) (ha : a = none → L = [] ∧ cap = 0) (hc : L.length ≤ cap ∧ cap ≤ maxLen) :
    Calls Try.prog 6 #[.slice a L.length cap] w fun e w' => e = .returned (.bool true) ∧ Below w.heap.size w w' := by
  have hG := greatA_any a cap L w hL hz hS
  by_cases hg : grA L = true
  · rw [hg] at hG
    have HG := Lib.hid hG
    have HAW := Lib.hid (fun W => awake40_any W)
    clear hG hz hS ha hc hL hg
    go_enter Try.func6, Try.ntmps6
    go_wp2_with fail
    refine HG.out.mono ?_
    rintro e w1 ⟨rfl, rfl⟩
    go_wp2_with fail
    refine (HAW.out _).mono ?_
    rintro e w2 ⟨rfl, hb2⟩
    go_wp2
    go_ret
    exact ⟨rfl, hb2⟩
  · have hg' : grA L = false := by simpa using hg
    rw [hg'] at hG
    have hz8 : ∀ x ∈ L, x.2.size ≤ 8 := fun x hx => Nat.le_trans (grA_sz hg' x hx) (by decide)
    by_cases h0 : chkW L = 0
    · obtain ⟨h2, h64, Ws, hWs⟩ := chkW_ok h0
      obtain rfl : L = VL Ws := hWs
      refine trees_walk _ w 0 (alc Ws) (upB Ws || dnB Ws) (fun W v => NR2 W v (alD Ws.length Ws)) (fun W v => RwS W v (tabM Ws)) hG ?_ ?_ (fun W W' v h hb => h.below hb) ?_ ?_ ?_ ?_ ?_ (fun W W' v h hb => h.below hb) ?_ ?_ ?_
      · intro W hb
        refine (Lengths_al a cap (VL Ws) hc.1 hc.2 hz8 W (hS.below hb)).mono ?_
        rintro e w' ⟨-, h, hb⟩
        obtain ⟨Us, v, e1, rfl, hn⟩ := h h0
        obtain rfl := VLinj e1
        exact ⟨v, rfl, hn, hb⟩
      · intro W hb
        refine (rLengths_al a cap (VL Ws) hc.1 hc.2 hz8 W (hS.below hb)).mono ?_
        rintro e w' ⟨-, h, hb⟩
        obtain ⟨Us, v, e1, rfl, hn⟩ := h h0
        obtain rfl := VLinj e1
        exact ⟨v, rfl, hn, hb⟩
      · intro W u v hu hv
        rw [VL_len] at h2 h64
        have h := same12_any u v _ _ (by rw [(alD_spec _ _ (Nat.le_refl _) (by omega)).1]; omega) W hu hv
        rw [decide_eq_true rfl] at h
        exact h
      · intro W hb
        refine (Cost_al a cap (VL Ws) hc.1 hc.2 hz8 W (hS.below hb)).mono ?_
        rintro e w' ⟨-, h, hb⟩
        obtain ⟨Us, e1, rfl⟩ := h h0
        obtain rfl := VLinj e1
        exact ⟨rfl, hb⟩
      · intro W hb
        refine (rCost_al a cap (VL Ws) hc.1 hc.2 hz8 W (hS.below hb)).mono ?_
        rintro e w' ⟨-, h, hb⟩
        obtain ⟨Us, e1, rfl⟩ := h h0
        obtain rfl := VLinj e1
        exact ⟨rfl, hb⟩
      · intro W hb
        refine (Table_al a cap (VL Ws) hc.1 hc.2 hz8 W (hS.below hb)).mono ?_
        rintro e w' ⟨-, h, hb⟩
        obtain ⟨Us, v, e1, rfl, hn⟩ := h h0
        obtain rfl := VLinj e1
        exact ⟨v, rfl, hn, hb⟩
      · intro W hb
        refine (rTable_al a cap (VL Ws) hc.1 hc.2 hz8 W (hS.below hb)).mono ?_
        rintro e w' ⟨-, h, hb⟩
        obtain ⟨Us, v, e1, rfl, hn⟩ := h h0
        obtain rfl := VLinj e1
        exact ⟨v, rfl, hn, hb⟩
      · intro W u v hu hv
        rw [VL_len] at h2 h64
        have h := sameM_any u v _ _ (by rw [tabM_len]; omega) (fun r hr => by
          obtain ⟨i, hi⟩ := List.mem_iff_getElem?.1 hr
          have hil := (List.getElem?_eq_some_iff.1 hi).1
          rw [tabM_len] at hil
          rw [tabM_at hil] at hi
          obtain rfl := Option.some.inj hi
          rw [VL_len, tabR_len]
          omega) W hu hv
        rw [decide_eq_true rfl] at h
        exact h
      · intro W hb
        refine (Mono_al a cap (VL Ws) hc.1 hc.2 hz8 W (hS.below hb)).mono ?_
        rintro e w' ⟨-, h, hb⟩
        obtain ⟨Us, e1, rfl⟩ := h h0
        obtain rfl := VLinj e1
        exact ⟨rfl, hb⟩
      · intro W hb
        refine (rMono_al a cap (VL Ws) hc.1 hc.2 hz8 W (hS.below hb)).mono ?_
        rintro e w' ⟨-, h, hb⟩
        obtain ⟨Us, e1, rfl⟩ := h h0
        obtain rfl := VLinj e1
        exact ⟨rfl, hb⟩
    · refine trees_walk _ w (chkW L) 0 false (fun _ v => v = .slice none 0 0) (fun _ v => v = .slice none 0 0) hG ?_ ?_ (fun W W' v h _ => h) ?_ ?_ ?_ ?_ ?_ (fun W W' v h _ => h) ?_ ?_ ?_
      · intro W hb
        refine (Lengths_al a cap L hc.1 hc.2 hz8 W (hS.below hb)).mono ?_
        rintro e w' ⟨h, -, hb⟩
        exact ⟨_, h h0, rfl, hb⟩
      · intro W hb
        refine (rLengths_al a cap L hc.1 hc.2 hz8 W (hS.below hb)).mono ?_
        rintro e w' ⟨h, -, hb⟩
        exact ⟨_, h h0, rfl, hb⟩
      · rintro W u v rfl rfl
        exact nil12_any W
      · intro W hb
        refine (Cost_al a cap L hc.1 hc.2 hz8 W (hS.below hb)).mono ?_
        rintro e w' ⟨h, -, hb⟩
        rw [mg_zero]
        exact ⟨h h0, hb⟩
      · intro W hb
        refine (rCost_al a cap L hc.1 hc.2 hz8 W (hS.below hb)).mono ?_
        rintro e w' ⟨h, -, hb⟩
        rw [mg_zero]
        exact ⟨h h0, hb⟩
      · intro W hb
        refine (Table_al a cap L hc.1 hc.2 hz8 W (hS.below hb)).mono ?_
        rintro e w' ⟨h, -, hb⟩
        exact ⟨_, h h0, rfl, hb⟩
      · intro W hb
        refine (rTable_al a cap L hc.1 hc.2 hz8 W (hS.below hb)).mono ?_
        rintro e w' ⟨h, -, hb⟩
        exact ⟨_, h h0, rfl, hb⟩
      · rintro W u v rfl rfl
        exact nil04_any W
      · intro W hb
        refine (Mono_al a cap L hc.1 hc.2 hz8 W (hS.below hb)).mono ?_
        rintro e w' ⟨h, -, hb⟩
        exact ⟨h h0, hb⟩
      · intro W hb
        refine (rMono_al a cap L hc.1 hc.2 hz8 W (hS.below hb)).mono ?_
        rintro e w' ⟨h, -, hb⟩
        exact ⟨h h0, hb⟩
end Go.Proofs.Gv
