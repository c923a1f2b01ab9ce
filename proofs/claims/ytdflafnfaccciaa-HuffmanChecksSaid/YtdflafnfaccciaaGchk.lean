/- The reference's Check (grooveref38). -/
import Derived.Test.YtdflafnfaccciaaGdps
import Derived.Test.YtdflafnfaccciaaGchw
import Derived.Test.YtdflafnfaccciaaHchk
import Derived.Test.YtdflafnfaccciaaLawKitP
set_option linter.unusedSimpArgs false
set_option linter.unusedVariables false
namespace Go.Proofs.Gv
open Go Go.RowKit Go.Maps

def badJ (l : List (Nat × Bool)) (a b : Nat) (x : Nat × Bool) : Bool := x.2 && (decide (x.1 < wAt l a) || decide (x.1 < wAt l b))
theorem lessB_of {l : List (Nat × Bool)} {a b j : Nat} {x : Nat × Bool} (h : (joinL l a b)[j]? = some x) (hb : badJ l a b x = true) : lessB l a b = true := by
  unfold lessB
  exact List.any_eq_true.2 ⟨x, List.mem_of_getElem? h, hb⟩
theorem lessB_no {l : List (Nat × Bool)} {a b : Nat} (h : ∀ (j : Nat) (x : Nat × Bool), (joinL l a b)[j]? = some x → badJ l a b x = false) : lessB l a b = false := by
  unfold lessB
  refine List.any_eq_false.2 fun x hx => ?_
  obtain ⟨j, hj⟩ := List.getElem?_of_mem hx
  have := h j x hj
  unfold badJ at this
  simp [this]
theorem okJ_less {l : List (Nat × Bool)} {x : Int × Int} (h : okJ false l x = true) : okJ true l x = !(lessB l x.1.toNat x.2.toNat) := by
  unfold okJ at h ⊢
  simp only [Bool.false_and, Bool.not_false, Bool.and_true] at h
  rw [h]
  simp
theorem okJ_true_false {l : List (Nat × Bool)} {x : Int × Int} (h : okJ false l x = false) : okJ true l x = false := by
  cases hq : okJ true l x with
  | false => rfl
  | true => rw [okJ_false hq] at h; cases h
theorem joinL_at {rl : List (Nat × Bool × Int)} {a b k wk : Nat} {fk : Bool} {pk : Int} (hk : k < rl.length) (h : (stepR rl a b)[k]? = some (wk, fk, pk)) : (joinL (flR rl) a b)[k]? = some (wk, fk) := by
  have h1 : (flR (stepR rl a b))[k]? = some (wk, fk) := by rw [flR_at, h]; rfl
  rw [flR_step] at h1
  unfold stepJ at h1
  simp only [Int.toNat_natCast] at h1
  rwa [List.getElem?_append_left (by unfold joinL; rw [List.length_set, List.length_set]; unfold flR; rw [List.length_map]; exact hk)] at h1
theorem no_step {l : List (Nat × Bool)} {a b k : Nat} {y : Nat × Bool} (h : ∀ (j : Nat) (x : Nat × Bool), j < k → (joinL l a b)[j]? = some x → badJ l a b x = false) (hy : (joinL l a b)[k]? = some y) (hb : badJ l a b y = false) :
    ∀ (j : Nat) (x : Nat × Bool), j < k + 1 → (joinL l a b)[j]? = some x → badJ l a b x = false := fun j x hj hx => by
  by_cases e : j = k
  · subst e
    rw [hx] at hy
    cases hy
    exact hb
  · exact h j x (by omega) hx
theorem cmp_lt {x d : Nat} (h : x < d) : cmpI (x : Int) (d : Int) < 0 := by unfold cmpI; rw [if_pos (by omega)]; decide
theorem cmp_ge {x d : Nat} (h : ¬ x < d) : decide (cmpI (x : Int) (d : Int) < 0) = false := by unfold cmpI; rw [if_neg (by omega)]; split <;> rfl
set_option maxRecDepth 100000 in
set_option maxHeartbeats 16000000 in
theorem rCheck_m_any (a : Option Addr) (cap : Nat) (L : List (Bool × ByteArray)) (v : Value) (ps : List (Int × Int)) (hL : L.length ≤ maxLen) (hz : ∀ x ∈ L, x.2.size ≤ 8) (hps : ps.length ≤ 1000) (w : World) (hSl : Sl w a L) (hv : MrgA w v ps) :
    Calls Try.prog 9 #[.slice a L.length cap, v] w fun e w' => e = .returned (.int .i64 (chkE L ps)) ∧ Below w.heap.size w w' := by
  have hcc := rcheckW_any a cap L w hL (fun x hx => Nat.le_trans (hz x hx) (by decide)) hSl
  obtain ⟨av, cv, rfl, hat⟩ := hv
  have HAT := Lib.hid hat
  have HCK := Lib.hid hcc
  have HS := Lib.hid hSl
  have HZ := Lib.hid hz
  clear hcc hat hSl hL hz
  by_cases h0 : ¬ chkW L = 0
  · have HE := Lib.hid (show chkE L ps = chkW L by unfold chkE; rw [if_pos h0])
    obtain ⟨E, hE⟩ : ∃ E, chkW L = E := ⟨_, rfl⟩
    rw [hE] at HCK HE h0
    have hne : (E != 0) = true := by simpa using h0
    clear h0 hE
    go_enter Try.func9, Try.ntmps9
    go_wp2_with fail
    refine HCK.out.mono ?_
    rintro e w1 ⟨rfl, hb⟩
    have HB := Lib.hid hb
    clear hb
    go_wp2
    go_ret
    exact ⟨by rw [HE.out]; rfl, HB.out⟩
  have h0 := Decidable.not_not.1 h0
  obtain ⟨g2, g64, Ws, hWs⟩ := chkW_ok h0
  obtain rfl : L = VL Ws := hWs
  rw [h0, VL_len] at HCK
  rw [VL_len] at g2 g64 ⊢
  have hgI : (2 : Int) ≤ Ws.length := by omega
  by_cases h1 : ((ps.length : Int) != (Ws.length : Int) - 1) = true
  · have HE := Lib.hid (show chkE (VL Ws) ps = 11 by
      have h1' : (ps.length : Int) ≠ (Ws.length : Int) - 1 := by simpa using h1
      unfold chkE; rw [if_neg (by rw [h0]; simp), VL_len, if_pos (by omega)])
    clear h0
    go_enter Try.func9, Try.ntmps9
    go_wp2_with fail
    refine HCK.out.mono ?_
    rintro e w1 ⟨rfl, hb⟩
    have HB := Lib.hid hb
    clear hb
    go_wp2
    go_ret
    exact ⟨by rw [HE.out]; rfl, HB.out⟩
  have h1B : ((ps.length : Int) != (Ws.length : Int) - 1) = false := by simpa using h1
  have h1e : ps.length + 1 = Ws.length := by simp at h1B; omega
  have HE := Lib.hid (show chkE (VL Ws) ps = match joinsJ true ps (Ws.map fun w => (w, true)) with | none => 23 | some _ => 0 from by
    unfold chkE; rw [if_neg (by rw [h0]; simp), VL_len, if_neg (by omega), wtsOf_VL]
    cases joinsJ true ps (Ws.map fun w => (w, true)) <;> rfl)
  have HWZ := Lib.hid (VL_lt HZ.out)
  obtain ⟨A0, rfl, -⟩ : ∃ A, a = some A ∧ True := by
    obtain ⟨z, hz⟩ : ∃ z, Ws[0]? = some z := ⟨Ws[0], List.getElem?_eq_getElem _⟩
    obtain ⟨A, e, -⟩ := HS.out 0 _ _ (VL_at hz)
    exact ⟨A, e, trivial⟩
  have HLV := Lib.hid (fun W hS => leaves_any A0 cap Ws (by omega) W hS)
  obtain ⟨n, hn⟩ : ∃ n, Ws.length = n := ⟨_, rfl⟩
  obtain ⟨all, hall⟩ : ∃ all, joinsJ true ps (Ws.map fun w => (w, true)) = all := ⟨_, rfl⟩
  have HST := Lib.hid (show RunJ n true all ps 0 (leafL Ws) [] from by rw [← hall]; exact RunJ.start hn HWZ.out)
  rw [hn] at HLV HCK h1B h1e g2 g64 hgI ⊢
  rw [hall] at HE
  clear h0 h1 hn hall
  have HL3 := Lib.hid h1e
  have hpl : ps.length ≤ 63 := by omega
  clear h1e
  go_enter Try.func9, Try.ntmps9
  go_wp2_with fail
  refine HCK.out.mono ?_
  rintro e w1 ⟨rfl, hb1⟩
  have HLV1 := Lib.hid (HLV.out w1 (HS.out.below hb1))
  have HB1 := Lib.hid hb1
  clear hb1 HLV HCK
  go_wp2_with fail
  refine HLV1.out.mono ?_
  rintro e w2 ⟨v2, rfl, hown, hgr⟩
  obtain ⟨B, hB⟩ : ∃ X, w1.heap.size = X := ⟨_, rfl⟩
  rw [hB] at hown
  have HO2 := Lib.hid hown
  have HG2 := Lib.hid (show w.grownBy w2 none from (Below.grows HB1.out).andThen hgr (fun k e => by cases e))
  have HBW := Lib.hid (show w.heap.size ≤ B from by rw [← hB]; exact HB1.out.size)
  have HB2 := Lib.hid (show B ≤ w2.heap.size from by rw [← hB]; exact hgr.size)
  clear hown hgr hB HB1 HLV1
  go_wp2_with fail
  go_loopg [6, 7] (ps.length + 1) (fun gg x6 x7 wr => ∃ (i : Nat) (rl : List (Nat × Bool × Int)) (pre : List (List (Nat × Nat))), x7 = .int .i64 (i : Int) ∧ i ≤ ps.length ∧ ps.length - i < gg ∧ RunJ n true all ps i rl pre ∧ w.grownBy wr none ∧ B ≤ wr.heap.size ∧ wr.ownsRow B 65 4 x6 (n + i) (ndV rl))
  case atStart => exact ⟨0, leafL Ws, [], rfl, Nat.zero_le _, by omega, HST.out, HG2.out, HB2.out, HO2.out⟩
  case round =>
    obtain ⟨i, rl, pre, rfl, hi, hig, hR, hg, hsz, ho⟩ := hrel
    have HGG := Lib.hid hig
    have HR := Lib.hid hR
    have HG := Lib.hid hg
    have HO := Lib.hid ho
    have HSZ := Lib.hid hsz
    clear hig hR hg ho hsz HO2 HG2 HB2 HST
    by_cases hil : i < ps.length
    · have hilI : (i : Int) < ps.length := by omega
      obtain ⟨⟨x, y⟩, hx⟩ : ∃ x, ps[i]? = some x := ⟨ps[i], List.getElem?_eq_getElem hil⟩
      obtain ⟨q1, q2⟩ := mrgV_at ps i _ hx
      obtain ⟨A, rfl, hc0⟩ := HAT.out _ _ q1
      obtain ⟨A', e1, hc1⟩ := HAT.out _ _ q2
      cases e1
      rw [← addr_next] at hc1
      have HM0 := Lib.hid (fun (W : World) (hb : Below w.heap.size w W) => (hb.cell (World.block_lt_of_cell? w _ hc0)).trans hc0)
      have HM1 := Lib.hid (fun (W : World) (hb : Below w.heap.size w W) => (hb.cell (World.block_lt_of_cell? w _ hc1)).trans hc1)
      have c0 := HM0.out wr (grown_below HG.out)
      have c1 := HM1.out wr (grown_below HG.out)
      simp only at c0 c1
      have HJ := Lib.hid (join_any B (n + i) (64 + i) u6 rl x y HR.out.hl (by omega) (by omega) (by omega) HR.out.wt wr HO.out HSZ.out)
      have HX := Lib.hid hx
      obtain ⟨g, cp, rfl, hbg, hlg⟩ := HO.out.form (by omega)
      obtain ⟨N0, hN0⟩ : ∃ N0, n + i = N0 := ⟨_, rfl⟩
      have HN0 := Lib.hid hN0
      have hN0b : N0 ≤ 200 := by omega
      rw [hN0] at HO HJ ⊢
      clear hx q1 q2 hc0 hc1 hbg hlg hN0
      go_wp2_with fail
      refine HJ.out.mono ?_
      intro e w2 hpost
      unfold JnPost at hpost
      by_cases hok : okJ false (flR rl) (x, y) = true
      · rw [if_pos hok] at hpost
        obtain ⟨v', rfl, hown, hgr⟩ := hpost
        obtain ⟨ax, px, rfl, hla, hra⟩ := free_at (show freeI (flR rl) x = true by unfold okJ at hok; simp only [Bool.and_eq_true] at hok; exact hok.1.1.2)
        obtain ⟨bx, py, rfl, hlb, hrb⟩ := free_at (show freeI (flR rl) y = true by unfold okJ at hok; simp only [Bool.and_eq_true] at hok; exact hok.1.2)
        simp only [Int.toNat_natCast] at hown
        have HOK := Lib.hid hok
        have HG2 := Lib.hid (HG.out.andThen hgr (fun k e => .inl (Nat.le_trans HBW.out (own_base HO.out e).1)))
        have HS2 := Lib.hid (Nat.le_trans HSZ.out hgr.size)
        have hLN := HR.out.hl
        have HAB := Lib.hid (show ax < N0 ∧ bx < N0 ∧ rl.length = N0 from by have := HN0.out; omega)
        obtain ⟨g', cp', rfl, hbg, hlg⟩ := hown.form (by omega)
        have HLG := Lib.hid (show g' < w2.heap.size from hlg)
        have HO2 := Lib.hid hown
        have HWR := Lib.hid (show ∀ k, wR rl k < 2 ^ (64 + i) from HR.out.wt)
        -- the cells of the nodes
        have HND := Lib.hid (show ∀ (k wk : Nat) (fk : Bool) (pk : Int), (stepR rl ax bx)[k]? = some (wk, fk, pk) → ∀ W, Below w2.heap.size w2 W → W.cell? ⟨g', k * 4, none⟩ = some (.bool false) ∧ W.cell? ⟨g', k * 4 + 1, none⟩ = some (.string (mg wk)) ∧ W.cell? ⟨g', k * 4 + 2, none⟩ = some (.bool fk) from fun k wk fk pk h W hb => by
          have hk := (List.getElem?_eq_some_iff.1 h).1
          rw [stepR_len, HAB.out.2.2] at hk
          have hq := ndV_at _ _ _ _ _ h
          refine ⟨?_, ?_, ?_⟩
          · exact (hb.cell (p := ⟨g', k * 4, none⟩) hlg).trans ((hown.cellAt (k * 4) (by omega)).trans hq.1)
          · exact (hb.cell (p := ⟨g', k * 4 + 1, none⟩) hlg).trans ((hown.cellAt (k * 4 + 1) (by omega)).trans hq.2.1)
          · exact (hb.cell (p := ⟨g', k * 4 + 2, none⟩) hlg).trans ((hown.cellAt (k * 4 + 2) (by omega)).trans hq.2.2.1))
        have HWS := Lib.hid (show ∀ k, k < N0 → ∃ (fk : Bool) (pk : Int), (stepR rl ax bx)[k]? = some (wR rl k, fk, pk) from fun k hk => by
          obtain ⟨⟨wk, fk, pk⟩, hq⟩ : ∃ t, (stepR rl ax bx)[k]? = some t := ⟨(stepR rl ax bx)[k]'(by rw [stepR_len, HAB.out.2.2]; omega), List.getElem?_eq_getElem _⟩
          have h2 := wR_step hla hlb k
          rw [if_neg (by have := HAB.out.2.2; omega)] at h2
          refine ⟨fk, pk, ?_⟩
          rw [hq, ← h2]
          unfold wR
          rw [hq]
          rfl)
        clear hown hgr hok c0 c1 HJ hbg hlg hla hlb hra hrb hLN
        go_wp2_with fail
        obtain ⟨wa, hwa⟩ : ∃ z, wR rl ax = z := ⟨_, rfl⟩
        obtain ⟨wb, hwb⟩ : ∃ z, wR rl bx = z := ⟨_, rfl⟩
        have HWA := Lib.hid (show wR rl ax = wa ∧ wR rl bx = wb ∧ wa < 2 ^ (64 + i) ∧ wb < 2 ^ (64 + i) from ⟨hwa, hwb, by rw [← hwa]; exact HWR.out _, by rw [← hwb]; exact HWR.out _⟩)
        obtain ⟨fa, pa, hga⟩ := HWS.out ax HAB.out.1
        obtain ⟨fb, pb, hgb⟩ := HWS.out bx HAB.out.2.1
        rw [hwa] at hga
        rw [hwb] at hgb
        have HGA := Lib.hid hga
        have HGB := Lib.hid hgb
        clear hga hgb hwa hwb
        have haI : (ax : Int) < (N0 + 1 : Nat) := by have := HAB.out; omega
        have hbI : (bx : Int) < (N0 + 1 : Nat) := by have := HAB.out; omega
        go_loopg [11] (N0 + 1) (fun gg x11 wq => ∃ (k : Nat), x11 = .int .i64 (k : Int) ∧ k ≤ N0 ∧ N0 - k < gg ∧ Below w2.heap.size w2 wq ∧ ∀ (j : Nat) (x : Nat × Bool), j < k → (joinL (flR rl) ax bx)[j]? = some x → badJ (flR rl) ax bx x = false)
        case atStart => exact ⟨0, rfl, Nat.zero_le _, by omega, Below.refl _ _, fun j x hj => absurd hj (Nat.not_lt_zero _)⟩
        case round =>
          obtain ⟨k, rfl, hk, hkg, hb, hno⟩ := hrel
          have HKG := Lib.hid hkg
          have HB := Lib.hid hb
          have HNO := Lib.hid hno
          clear hkg hb hno
          by_cases hkl : k < N0
          · have hklI : (k : Int) < N0 := by omega
            obtain ⟨fk, pk, hgk⟩ := HWS.out k hkl
            obtain ⟨wk, hwk⟩ : ∃ z, wR rl k = z := ⟨_, rfl⟩
            rw [hwk] at hgk
            have HJL := Lib.hid (joinL_at (by have := HAB.out; omega) hgk)
            have HGK := Lib.hid hgk
            have hc1 := fun W => rCmpN (x := wk) (d := wa) (64 + i) (64 + i) (by rw [← hwk]; exact HWR.out k) HWA.out.2.2.1 (by omega) (by omega) W
            have hc2 := fun W => rCmpN (x := wk) (d := wb) (64 + i) (64 + i) (by rw [← hwk]; exact HWR.out k) HWA.out.2.2.2 (by omega) (by omega) W
            have HC1 := Lib.hid hc1
            have HC2 := Lib.hid hc2
            clear hgk hwk hc1 hc2
            have HFW := Lib.hid (fun (u : Cl wr) => bstep HB.out u.h)
            have HAX := Lib.hid (HAB.out.1)
            have HWT := Lib.hid (show wAt (flR rl) ax = wa ∧ wAt (flR rl) bx = wb from by rw [wAt_flR, wAt_flR]; exact ⟨HWA.out.1, HWA.out.2.1⟩)
            obtain ⟨q1, hq1⟩ : ∃ q, cmpI (wk : Int) (wa : Int) = q := ⟨_, rfl⟩
            obtain ⟨q2, hq2⟩ : ∃ q, cmpI (wk : Int) (wb : Int) = q := ⟨_, rfl⟩
            rw [hq1] at HC1
            rw [hq2] at HC2
            have HQ1 := Lib.hid hq1
            have HQ2 := Lib.hid hq2
            clear hq1 hq2
            have HHIT := Lib.hid (show badJ (flR rl) ax bx (wk, fk) = true → chkE (VL Ws) ps = 23 from fun h => by
              have hl := lessB_of HJL.out h
              have hq := HR.out.heq
              rw [joinsJ_drop HX.out, if_neg (by rw [okJ_less HOK.out]; simp only [Int.toNat_natCast]; rw [hl]; decide)] at hq
              rw [HE.out, hq]
              rfl)
            have haB : decide ((ax : Int) < 0) = false := by simp
            have hbB : decide ((bx : Int) < 0) = false := by simp
            go_wp2_with fail
            haveI := cls_some wr
            have a0 := fun u : Cl wr => (HND.out k wk fk pk HGK.out u.x (HFW.out u)).1
            have a1 := fun u : Cl wr => (HND.out k wk fk pk HGK.out u.x (HFW.out u)).2.1
            have a2 := fun u : Cl wr => (HND.out k wk fk pk HGK.out u.x (HFW.out u)).2.2
            have b0 := fun u : Cl wr => (HND.out ax wa fa pa HGA.out u.x (HFW.out u)).1
            have b1 := fun u : Cl wr => (HND.out ax wa fa pa HGA.out u.x (HFW.out u)).2.1
            have d0 := fun u : Cl wr => (HND.out bx wb fb pb HGB.out u.x (HFW.out u)).1
            have d1 := fun u : Cl wr => (HND.out bx wb fb pb HGB.out u.x (HFW.out u)).2.1
            have m0 := fun u : Cl wr => HM0.out u.x (bstep (grown_below HG2.out) (HFW.out u))
            have m1 := fun u : Cl wr => HM1.out u.x (bstep (grown_below HG2.out) (HFW.out u))
            refine wp_region_cls (by kernel_rfl) ?_
            cases fk with
            | false =>
              clear a0 a1 b0 b1 d0 d1 m0 m1
              iterate 41 (go_big_quiet_step (fail))
              refine wpQuiet_nil ?_
              intro w9 hw9
              have HB9 := Lib.hid (show Below w2.heap.size w2 w9 from by obtain ⟨u, rfl⟩ := hw9; exact HFW.out u)
              clear hw9 this a2
              have HNX := Lib.hid (no_step HNO.out HJL.out (by unfold badJ; rfl))
              go_wp2
              go_roundg (N0 - k)
              case rel => exact ⟨k + 1, by go_num, by omega, by omega, HB9.out, HNX.out⟩
              case measure => have := HKG.out; omega
            | true =>
              by_cases h1 : wk < wa
              · have hd : q1 < 0 := by rw [← HQ1.out]; exact cmp_lt h1
                have HER := Lib.hid (HHIT.out (by unfold badJ; rw [HWT.out.1]; simp [h1]))
                clear h1
                iterate 20 (go_big_quiet_step (fail))
                go_big_quiet_step ((go_at_call 30; exact quiet_cls HC1.out _))
                iterate 20 (go_big_quiet_step (fail))
                refine wpQuiet_nil ?_
                intro w9 hw9
                have HB9 := Lib.hid (show Below w2.heap.size w2 w9 from by obtain ⟨u, rfl⟩ := hw9; exact HFW.out u)
                clear hw9 this a0 a1 a2 b0 b1 d0 d1 m0 m1
                go_wp2
                go_ret
                exact ⟨by rw [HER.out]; rfl, bstep (grown_below HG2.out) HB9.out⟩
              · have hd : decide (q1 < 0) = false := by rw [← HQ1.out]; exact cmp_ge h1
                have H1 := Lib.hid h1
                clear h1
                by_cases h2 : wk < wb
                · have hd2 : q2 < 0 := by rw [← HQ2.out]; exact cmp_lt h2
                  have HER := Lib.hid (HHIT.out (by unfold badJ; rw [HWT.out.2]; simp [h2]))
                  clear h2
                  iterate 20 (go_big_quiet_step (fail))
                  go_big_quiet_step ((go_at_call 30; exact quiet_cls HC1.out _))
                  iterate 16 (go_big_quiet_step (fail))
                  go_big_quiet_step ((go_at_call 30; exact quiet_cls HC2.out _))
                  iterate 3 (go_big_quiet_step (fail))
                  refine wpQuiet_nil ?_
                  intro w9 hw9
                  have HB9 := Lib.hid (show Below w2.heap.size w2 w9 from by obtain ⟨u, rfl⟩ := hw9; exact HFW.out u)
                  clear hw9 this a0 a1 a2 b0 b1 d0 d1 m0 m1
                  go_wp2
                  go_ret
                  exact ⟨by rw [HER.out]; rfl, bstep (grown_below HG2.out) HB9.out⟩
                · have hd2 : decide (q2 < 0) = false := by rw [← HQ2.out]; exact cmp_ge h2
                  have HNX := Lib.hid (no_step HNO.out HJL.out (by unfold badJ; rw [HWT.out.1, HWT.out.2]; simp [H1.out, h2]))
                  clear h2
                  iterate 20 (go_big_quiet_step (fail))
                  go_big_quiet_step ((go_at_call 30; exact quiet_cls HC1.out _))
                  iterate 16 (go_big_quiet_step (fail))
                  go_big_quiet_step ((go_at_call 30; exact quiet_cls HC2.out _))
                  iterate 3 (go_big_quiet_step (fail))
                  refine wpQuiet_nil ?_
                  intro w9 hw9
                  have HB9 := Lib.hid (show Below w2.heap.size w2 w9 from by obtain ⟨u, rfl⟩ := hw9; exact HFW.out u)
                  clear hw9 this a0 a1 a2 b0 b1 d0 d1 m0 m1
                  go_wp2
                  go_roundg (N0 - k)
                  case rel => exact ⟨k + 1, by go_num, by omega, by omega, HB9.out, HNX.out⟩
                  case measure => have := HKG.out; omega
          · obtain rfl : k = N0 := by omega
            have hBk : decide ((k : Int) < k) = false := by simp
            have hless : lessB (flR rl) ax bx = false := lessB_no fun j x hx => HNO.out j x (by
              have := (List.getElem?_eq_some_iff.1 hx).1
              unfold joinL at this
              rw [List.length_set, List.length_set] at this
              unfold flR at this
              rw [List.length_map, HAB.out.2.2] at this
              exact this) hx
            have hnx := (HR.out.next HX.out (by rw [okJ_less HOK.out]; simp only [Int.toNat_natCast]; rw [hless]; rfl)).1
            simp only [Int.toNat_natCast] at hnx
            have HN := Lib.hid hnx
            have HO3 := Lib.hid (own_grown HO2.out (Below.grows HB.out) (by simp))
            have HG3 := Lib.hid (HG2.out.andThen (Below.grows HB.out) (fun k e => by cases e))
            have HS3 := Lib.hid (Nat.le_trans HS2.out HB.out.size)
            clear hless hnx
            go_wp2
            go_roundg (ps.length - i)
            case rel => exact ⟨i + 1, _, _, by go_num, by omega, by omega, HN.out, HG3.out, HS3.out, by rw [show n + (i + 1) = k + 1 from by have := HN0.out; omega]; exact HO3.out⟩
            case measure => have := HGG.out; omega
      · rw [if_neg hok] at hpost
        obtain ⟨rfl, hb⟩ := hpost
        have HER := Lib.hid (show chkE (VL Ws) ps = 23 from by
          have hq := HR.out.heq
          rw [joinsJ_drop HX.out, if_neg (by rw [okJ_true_false (by simpa using hok)]; decide)] at hq
          rw [HE.out, hq]
          rfl)
        have HB2 := Lib.hid (bstep (grown_below HG.out) hb)
        clear hok hb c0 c1 HJ
        go_wp2
        go_ret
        exact ⟨by rw [HER.out]; rfl, HB2.out⟩
    · obtain rfl : i = ps.length := by omega
      have hB : decide ((ps.length : Int) < ps.length) = false := by simp
      have hal := HR.out.ends
      have HER := Lib.hid (show chkE (VL Ws) ps = 0 from by rw [HE.out, hal])
      clear hal
      go_wp2
      go_ret
      exact ⟨by rw [HER.out]; rfl, grown_below HG.out⟩
end Go.Proofs.Gv
