/- limited: the least of costs; the closure that newPlan hands to it. -/
import Derived.Test.YtglgiofjgfbfgaaLpl
set_option linter.unusedSimpArgs false
set_option linter.unusedVariables false
namespace Go.Proofs.Gv
open Go Go.RowKit Go.Maps

set_option maxRecDepth 100000 in
set_option maxHeartbeats 4000000 in
theorem least39_any (m f N : Nat) (lb : Array Value) (F : Nat → Option Nat) (hm : m ≤ 12) (hN : N ≤ 100000) (w : World)
    (eg : ∀ args X, (callFunc f args).run Try.prog X = .ok (.enter f args) X)
    (hb : ∀ p x, F p = some x → x < 2 ^ N)
    (hcl : ∀ X p, p ≤ m → Below w.heap.size w X → Calls Try.prog f (#[.int .i64 (p : Int)] ++ lb) X fun e w' => e = .returned (oV (F p)) ∧ Below X.heap.size X w') :
    Calls Try.prog 90 #[.int .i64 m, .func (.func f) #[] lb] w fun e w' => e = .returned (oV (leastF F (m + 1))) ∧ Below w.heap.size w w' := by
  have HCL := Lib.hid hcl
  have HBD := Lib.hid hb
  have hb1 : Below w.heap.size w (w.alloc (.cells #[.bool false, .string ⟨#[]⟩] 29)) := (Below.refl _ _).alloc (Nat.le_refl _) _
  have bR := BC.new w w.heap.size #[.bool false, .string ⟨#[]⟩] 29 rfl
  obtain ⟨p4, hp⟩ : ∃ p, w.heap.size = p := ⟨_, rfl⟩
  have HP := Lib.hid hp
  obtain ⟨X, hX⟩ : ∃ X, w.alloc (.cells #[.bool false, .string ⟨#[]⟩] 29) = X := ⟨_, rfl⟩
  rw [hX] at hb1 bR
  rw [hp] at bR
  have HBX := Lib.hid hb1
  have HBR := Lib.hid bR
  have HNO := Lib.hid (none39_any X)
  clear hb1 bR hcl hb
  go_enter Try.func90, Try.ntmps90
  go_wp2_with fail
  refine HNO.out.mono ?_
  rintro e w1 ⟨rfl, hb⟩
  unfold oV oB oS
  have h2 : Below w1.heap.size w1 (w1.alloc (.cells #[.bool true, .string (mg 1)] 29)) := (Below.refl _ _).alloc (Nat.le_refl _) _
  have hst := hb.trans (h2.mono hb.size)
  have HBR3 := Lib.hid (HBR.out.below hst)
  have HB3 := Lib.hid (bstep HBX.out hst)
  have bT := Lib.hid (BC.new w1 w1.heap.size #[.bool true, .string (mg 1)] 29 rfl)
  have HLT := Lib.hid (show p4 < w1.heap.size from by
    have h1 := HBR.out.lt
    exact Nat.lt_of_lt_of_le h1 hb.size)
  clear hst h2 hb
  go_wp2_with fail
  obtain ⟨Q, hQ⟩ : ∃ q, w1.heap.size = q := ⟨_, rfl⟩
  rw [hQ] at bT HLT ⊢
  obtain ⟨X3, hX3⟩ : ∃ X, w1.alloc (.cells #[.bool true, .string (mg 1)] 29) = X := ⟨_, rfl⟩
  rw [hX3] at HBR3 HB3 bT ⊢
  clear hX3 hQ
  go_loopg [6] (m + 2) (fun gg v6 wr => ∃ p : Nat, v6 = .int .i64 (p : Int) ∧ p ≤ m + 1 ∧ m + 1 - p < gg ∧ BC wr Q [.bool (oB (leastF F p)), .string (oS (leastF F p))] ∧ BC wr p4 [.bool false, .string ⟨#[]⟩] ∧ Below w.heap.size w wr)
  case atStart => exact ⟨0, rfl, Nat.zero_le _, by omega, bT.out, HBR3.out, HB3.out⟩
  case round =>
    obtain ⟨p, rfl, hpm, hpg, hq, hr, hw⟩ := hrel
    clear bT HBR3 HB3
    have HG := Lib.hid hpg
    have HQ := Lib.hid hq
    have HR := Lib.hid hr
    have HW := Lib.hid hw
    clear hpg hq hr hw
    by_cases hlt : p ≤ m
    · have hltI : (p : Int) ≤ m := by omega
      have HST := Lib.hid (show leastF F (p + 1) = lsrO (leastF F p) (F p) from rfl)
      have HLB := Lib.hid (show ∀ o, leastF F p = some o → o < 2 ^ N from fun o ho => by
        by_cases h0 : p = 0
        · subst h0; cases ho
        · obtain ⟨t, -, ht⟩ := leastF_at (f := F) p (by omega)
          exact HBD.out t o (ht.trans ho))
      have HFB := Lib.hid (HBD.out p)
      obtain ⟨O1, hO1⟩ : ∃ o, leastF F p = o := ⟨_, rfl⟩
      obtain ⟨O2, hO2⟩ : ∃ o, F p = o := ⟨_, rfl⟩
      have HC1 := Lib.hid (HCL.out wr p hlt HW.out)
      rw [hO1] at HQ HST HLB
      rw [hO2] at HST HFB HC1
      clear hO1 hO2
      go_wp2_with fail
      refine HC1.out.mono ?_
      rintro e w4 ⟨rfl, hb4⟩
      cases O2 with
      | none =>
        unfold oV oB oS
        have h2 : Below w4.heap.size w4 (w4.alloc (.cells #[.bool true, .string (mg 1)] 29)) := (Below.refl _ _).alloc (Nat.le_refl _) _
        have hst := hb4.trans (h2.mono hb4.size)
        have HQ3 := Lib.hid (HQ.out.below hst)
        have HR3 := Lib.hid (HR.out.below hst)
        have HW3 := Lib.hid (bstep HW.out hst)
        have bT := Lib.hid (BC.new w4 w4.heap.size #[.bool true, .string (mg 1)] 29 rfl)
        obtain ⟨Q7, hQ7⟩ : ∃ q, w4.heap.size = q := ⟨_, rfl⟩
        rw [hQ7] at bT
        obtain ⟨X4, hX4⟩ : ∃ X, w4.alloc (.cells #[.bool true, .string (mg 1)] 29) = X := ⟨_, rfl⟩
        rw [hX4] at HQ3 HR3 HW3 bT
        have t0 := bT.out.at 0 _ rfl
        have t1 := bT.out.at 1 _ rfl
        clear hst h2 hb4 HQ HR HW
        go_wp2_with fail
        go_roundg (m + 1 - p)
        case rel =>
          refine ⟨p + 1, by go_num, by omega, by omega, ?_, HR3.out, HW3.out⟩
          rw [HST.out]
          cases O1 <;> exact HQ3.out
        case measure => have := HG.out; omega
      | some x =>
        have hx := HFB.out x rfl
        unfold oV oB oS
        have h2 : Below w4.heap.size w4 (w4.alloc (.cells #[.bool false, .string (mg x)] 29)) := (Below.refl _ _).alloc (Nat.le_refl _) _
        have hst := hb4.trans (h2.mono hb4.size)
        have HQ3 := Lib.hid (HQ.out.below hst)
        have HR3 := Lib.hid (HR.out.below hst)
        have HW3 := Lib.hid (bstep HW.out hst)
        have bT := Lib.hid (BC.new w4 w4.heap.size #[.bool false, .string (mg x)] 29 rfl)
        obtain ⟨Q7, hQ7⟩ : ∃ q, w4.heap.size = q := ⟨_, rfl⟩
        rw [hQ7] at bT
        obtain ⟨X4, hX4⟩ : ∃ X, w4.alloc (.cells #[.bool false, .string (mg x)] 29) = X := ⟨_, rfl⟩
        rw [hX4] at HQ3 HR3 HW3 bT
        have t0 := bT.out.at 0 _ rfl
        have t1 := bT.out.at 1 _ rfl
        clear hst h2 hb4 HQ HR HW
        cases O1 with
        | none =>
          have HQ4 := Lib.hid (show BC X4 Q [.bool true, .string (mg 1)] from HQ3.out)
          clear HQ3
          have q0 := HQ4.out.at 0 _ rfl
          have q1 := HQ4.out.at 1 _ rfl
          have z0 := HQ4.out.z 0 (by simp)
          have z1 := HQ4.out.z 1 (by simp)
          go_wp2_with fail
          go_roundg (m + 1 - p)
          case rel =>
            refine ⟨p + 1, by go_num, by omega, by omega, ?_, ?_, ?_⟩
            · rw [HST.out]
              exact HQ4.out.set2 0 1 (.bool false) (.string (mg x)) (by simp) (by simp)
            · exact (HR3.out.other 0 _ (by have := HLT.out; omega)).other 1 _ (by have := HLT.out; omega)
            · exact (HW3.out.setCell (p := ⟨Q, 0, none⟩) (by have := HLT.out; have := HP.out; show w.heap.size ≤ Q; omega) _).setCell (p := ⟨Q, 1, none⟩) (by have := HLT.out; have := HP.out; show w.heap.size ≤ Q; omega) _
          case measure => have := HG.out; omega
        | some o =>
          have ho := HLB.out o rfl
          have HQ4 := Lib.hid (show BC X4 Q [.bool false, .string (mg o)] from HQ3.out)
          clear HQ3
          have q0 := HQ4.out.at 0 _ rfl
          have q1 := HQ4.out.at 1 _ rfl
          have HCM := Lib.hid (fun Y => cCmpN (x := x) (d := o) N N hx ho (by omega) (by omega) Y)
          obtain ⟨c, hc⟩ : ∃ c, cmpI (x : Int) (o : Int) = c := ⟨_, rfl⟩
          rw [hc] at HCM
          have hcl : c < 0 ↔ x < o := by
            rw [← hc]
            have := cmpI_lt0 (x : Int) (o : Int)
            rw [decide_eq_decide] at this
            omega
          have HCC := Lib.hid hcl
          clear hc hcl hx ho
          go_wp2_with fail
          refine (HCM.out _).mono ?_
          rintro e w5 ⟨rfl, hb5⟩
          have HQ5 := Lib.hid (HQ4.out.below hb5)
          have HR5 := Lib.hid (HR3.out.below hb5)
          have HW5 := Lib.hid (bstep HW3.out hb5)
          have bT5 := bT.out.below hb5
          have t0 := bT5.at 0 _ rfl
          have t1 := bT5.at 1 _ rfl
          have q0 := HQ5.out.at 0 _ rfl
          have q1 := HQ5.out.at 1 _ rfl
          have z0 := HQ5.out.z 0 (by simp)
          have z1 := HQ5.out.z 1 (by simp)
          clear hb5 bT5 bT HQ4 HR3 HW3
          by_cases hc0 : c < 0
          · have hlo := HCC.out.1 hc0
            have HST2 := Lib.hid (show leastF F (p + 1) = some x from by rw [HST.out, lsrO_ss, if_pos hlo])
            clear hlo
            go_wp2_with fail
            go_roundg (m + 1 - p)
            case rel =>
              refine ⟨p + 1, by go_num, by omega, by omega, ?_, ?_, ?_⟩
              · rw [HST2.out]
                exact HQ5.out.set2 0 1 (.bool false) (.string (mg x)) (by simp) (by simp)
              · exact (HR5.out.other 0 _ (by have := HLT.out; omega)).other 1 _ (by have := HLT.out; omega)
              · exact (HW5.out.setCell (p := ⟨Q, 0, none⟩) (by have := HLT.out; have := HP.out; show w.heap.size ≤ Q; omega) _).setCell (p := ⟨Q, 1, none⟩) (by have := HLT.out; have := HP.out; show w.heap.size ≤ Q; omega) _
            case measure => have := HG.out; omega
          · have hB : decide (c < 0) = false := by simpa using hc0
            have HST2 := Lib.hid (show leastF F (p + 1) = some o from by rw [HST.out, lsrO_ss, if_neg fun h => hc0 (HCC.out.2 h)])
            go_wp2_with fail
            go_roundg (m + 1 - p)
            case rel =>
              refine ⟨p + 1, by go_num, by omega, by omega, ?_, HR5.out, HW5.out⟩
              rw [HST2.out]
              exact HQ5.out
            case measure => have := HG.out; omega
    · obtain rfl : p = m + 1 := by omega
      have hB : decide (((m + 1 : Nat) : Int) ≤ m) = false := by simp; omega
      have hBN : ¬ ((m + 1 : Nat) : Int) ≤ (m : Int) := by omega
      obtain ⟨V, hV⟩ : ∃ V, leastF F (m + 1) = V := ⟨_, rfl⟩
      rw [hV] at HQ
      obtain ⟨b, hb⟩ : ∃ b, oB V = b := ⟨_, rfl⟩
      obtain ⟨u, hu⟩ : ∃ u, oS V = u := ⟨_, rfl⟩
      rw [hb, hu] at HQ
      have HV := Lib.hid (show oV (leastF F (m + 1)) = .agg #[.bool b, .string u] from by rw [hV]; unfold oV; rw [hb, hu])
      have q0 := HQ.out.at 0 _ rfl
      have q1 := HQ.out.at 1 _ rfl
      have z0 := HR.out.z 0 (by simp)
      have z1 := HR.out.z 1 (by simp)
      have y0 := HR.out.at 0 _ rfl
      have y1 := HR.out.at 1 _ rfl
      have bS := HR.out.set2 0 1 (.bool b) (.string u) (by simp) (by simp)
      have s0 := bS.at 0 _ rfl
      have s1 := bS.at 1 _ rfl
      have HBF := Lib.hid ((HW.out.setCell (p := ⟨p4, 0, none⟩) (by have := HP.out; show w.heap.size ≤ p4; omega) (.bool b)).setCell (p := ⟨p4, 1, none⟩) (by have := HP.out; show w.heap.size ≤ p4; omega) (.string u))
      clear bS hb hu hV
      go_wp2
      refine bodyPost_ret (v := .agg #[.bool b, .string u]) (by simp [results, Try.results90, go_sem, s0, s1]) rfl ?_
      rw [HV.out]
      refine ⟨rfl, ?_⟩
      have := HBF.out
      rwa [HP.out] at this
set_option maxRecDepth 100000 in
set_option maxHeartbeats 1600000 in
theorem npc_any (n m s t g j k i p r N bt bj bk bi : Nat) (O : List Nat) (w : World) (hn : n ≤ 12) (hm : m ≤ 64) (hj : j < m) (hk : k ≤ n) (hp : p ≤ k) (hi : i + p ≤ n) (hN : N ≤ 1000)
    (hr : w.cell? ⟨t, j + 1, none⟩ = some (.slice (some ⟨g, 0, none⟩) ((n + 1) * (n + 1)) ((n + 1) * (n + 1)))) (hg : RowT w g O n r) (hs : SumT w s O n) (hO : O.sum < 2 ^ N) (hT : ∀ k i x, tb O n r k i = some x → x < 2 ^ N)
    (hbt : BC w bt [.int .i64 (n : Int), .slice (some ⟨s, 0, none⟩) (n + 1) (n + 1), .slice (some ⟨t, 0, none⟩) (m + 1) (m + 1)]) (hbj : BC w bj [.int .i64 (j : Int)]) (hbk : BC w bk [.int .i64 (k : Int)]) (hbi : BC w bi [.int .i64 (i : Int)]) :
    Calls Try.prog 91 #[.int .i64 p, .pointer (some ⟨bt, 0, none⟩), .pointer (some ⟨bj, 0, none⟩), .pointer (some ⟨bk, 0, none⟩), .pointer (some ⟨bi, 0, none⟩)] w fun e w' => e = .returned (oV (plc O n r k i p)) ∧ Below w.heap.size w w' := by
  have HPL := Lib.hid (fun W (h : Below w.heap.size w W) => place39_any n m s t g j k i p r N O W hn hm hj hk hp hi hN (cellBelow hr h) (hg.below h) (hs.below h) hO hT)
  obtain ⟨V, hV⟩ : ∃ V, plc O n r k i p = V := ⟨_, rfl⟩
  rw [hV] at HPL ⊢
  obtain ⟨b, hb⟩ : ∃ b, oB V = b := ⟨_, rfl⟩
  obtain ⟨u, hu⟩ : ∃ u, oS V = u := ⟨_, rfl⟩
  have HV := Lib.hid (show oV V = .agg #[.bool b, .string u] from by unfold oV; rw [hb, hu])
  rw [HV.out] at HPL
  unfold plV at HPL
  have hb1 : Below w.heap.size w (w.alloc (.cells #[.bool false, .string ⟨#[]⟩] 29)) := (Below.refl _ _).alloc (Nat.le_refl _) _
  have bR := BC.new w w.heap.size #[.bool false, .string ⟨#[]⟩] 29 rfl
  have b1 := hbt.below hb1
  have b2 := hbj.below hb1
  have b3 := hbk.below hb1
  have b4 := hbi.below hb1
  obtain ⟨p6, hp6⟩ : ∃ p, w.heap.size = p := ⟨_, rfl⟩
  have HP := Lib.hid hp6
  obtain ⟨X, hX⟩ : ∃ X, w.alloc (.cells #[.bool false, .string ⟨#[]⟩] 29) = X := ⟨_, rfl⟩
  rw [hX] at hb1 bR b1 b2 b3 b4
  rw [hp6] at bR
  have a0 := b1.at 0 _ rfl
  have a1 := b1.at 1 _ rfl
  have a2 := b1.at 2 _ rfl
  have j0 := b2.at 0 _ rfl
  have k0 := b3.at 0 _ rfl
  have i0 := b4.at 0 _ rfl
  have HBX := Lib.hid hb1
  have HBR := Lib.hid bR
  have HC := Lib.hid (HPL.out X hb1)
  clear hb1 bR b1 b2 b3 b4 hbt hbj hbk hbi hr hg hs hO hT hV hb hu hj hk hp hi
  go_enter Try.func91, Try.ntmps91
  go_wp2_with fail
  refine HC.out.mono ?_
  rintro e w1 ⟨rfl, hb⟩
  have bR1 := HBR.out.below hb
  have HB1 := Lib.hid (bstep HBX.out hb)
  have z0 := bR1.z 0 (by simp)
  have z1 := bR1.z 1 (by simp)
  have y0 := bR1.at 0 _ rfl
  have y1 := bR1.at 1 _ rfl
  have bS := bR1.set2 0 1 (.bool b) (.string u) (by simp) (by simp)
  have s0 := bS.at 0 _ rfl
  have s1 := bS.at 1 _ rfl
  have HBF := Lib.hid ((HB1.out.setCell (p := ⟨p6, 0, none⟩) (by have := HP.out; show w.heap.size ≤ p6; omega) (.bool b)).setCell (p := ⟨p6, 1, none⟩) (by have := HP.out; show w.heap.size ≤ p6; omega) (.string u))
  clear hb bR1 bS a0 a1 a2 j0 k0 i0
  go_wp2
  refine bodyPost_ret (v := .agg #[.bool b, .string u]) (by simp [results, Try.results91, go_sem, s0, s1]) rfl ?_
  rw [HV.out]
  exact ⟨rfl, HBF.out⟩
end Go.Proofs.Gv
