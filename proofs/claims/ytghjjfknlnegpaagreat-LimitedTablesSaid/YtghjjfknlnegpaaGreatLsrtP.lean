/- limited: the least of costs; the closure that newPlan hands to it. -/
import Derived.Test.YtghjjfknlnegpaaGreatLplP
import Derived.Test.YtghjjfknlnegpaaGreatHordP
import Derived.Test.YtghjjfknlnegpaaGreatHmeqP
set_option linter.unusedSimpArgs false
set_option linter.unusedVariables false
namespace Go.Proofs.Gv
open Go Go.RowKit Go.Maps

set_option maxRecDepth 100000 in
set_option maxHeartbeats 4000000 in
theorem least39_any (m f N : Nat) (lb : Array Value) (F : Nat → Option Nat) (hm : m ≤ 12) (hN : N ≤ 100000) (w : World)
    (eg : ∀ args X, (callFunc f args).run Tryz.prog X = .ok (.enter f args) X)
    (hb : ∀ p x, F p = some x → x < 2 ^ N)
    (hcl : ∀ X p, p ≤ m → Below w.heap.size w X → Calls Tryz.prog f (#[.int .i64 (p : Int)] ++ lb) X fun e w' => e = .returned (oV (F p)) ∧ Below X.heap.size X w') :
    Calls Tryz.prog 44 #[.int .i64 m, .func (.func f) #[] lb] w fun e w' => e = .returned (oV (leastF F (m + 1))) ∧ Below w.heap.size w w' := by
  have HCL := Lib.hid hcl
  have HBD := Lib.hid hb
  have hb1 : Below w.heap.size w (w.alloc (.cells #[.bool false, .string ⟨#[]⟩] 29)) := (Below.refl _ _).alloc (Nat.le_refl _) _
  have bR := BC.new w w.heap.size #[.bool false, .string ⟨#[]⟩] 29 rfl
  obtain ⟨p4, hp⟩ : ∃ p, w.heap.size = p := ⟨_, rfl⟩
  have HP := Lib.hid hp
  obtain ⟨X, hX⟩ : ∃ X, w.alloc (.cells #[.bool false, .string ⟨#[]⟩] 29) = X := ⟨_, rfl⟩
  rw [hX] at hb1 bR
  rw [hp] at bR
  have HBX := Lib.hid hb1
  have HBR := Lib.hid bR
  have HNO := Lib.hid (none39_any X)
  clear hb1 bR hcl hb
  go_enter Tryz.func44, Tryz.ntmps44
  go_wp2_with fail
  refine HNO.out.mono ?_
  rintro e w1 ⟨rfl, hb⟩
  unfold oV oB oS
  have h2 : Below w1.heap.size w1 (w1.alloc (.cells #[.bool true, .string (mg 1)] 29)) := (Below.refl _ _).alloc (Nat.le_refl _) _
  have hst := hb.trans (h2.mono hb.size)
  have HBR3 := Lib.hid (HBR.out.below hst)
  have HB3 := Lib.hid (bstep HBX.out hst)
  have bT := Lib.hid (BC.new w1 w1.heap.size #[.bool true, .string (mg 1)] 29 rfl)
  have HLT := Lib.hid (show p4 < w1.heap.size from by
    have h1 := HBR.out.lt
    exact Nat.lt_of_lt_of_le h1 hb.size)
  clear hst h2 hb
  go_wp2_with fail
  obtain ⟨Q, hQ⟩ : ∃ q, w1.heap.size = q := ⟨_, rfl⟩
  rw [hQ] at bT HLT ⊢
  obtain ⟨X3, hX3⟩ : ∃ X, w1.alloc (.cells #[.bool true, .string (mg 1)] 29) = X := ⟨_, rfl⟩
  rw [hX3] at HBR3 HB3 bT ⊢
  clear hX3 hQ
  go_loopg [6] (m + 2) (fun gg v6 wr => ∃ p : Nat, v6 = .int .i64 (p : Int) ∧ p ≤ m + 1 ∧ m + 1 - p < gg ∧ BC wr Q [.bool (oB (leastF F p)), .string (oS (leastF F p))] ∧ BC wr p4 [.bool false, .string ⟨#[]⟩] ∧ Below w.heap.size w wr)
  case atStart => exact ⟨0, rfl, Nat.zero_le _, by omega, bT.out, HBR3.out, HB3.out⟩
  case round =>
    obtain ⟨p, rfl, hpm, hpg, hq, hr, hw⟩ := hrel
    clear bT HBR3 HB3
    have HG := Lib.hid hpg
    have HQ := Lib.hid hq
    have HR := Lib.hid hr
    have HW := Lib.hid hw
    clear hpg hq hr hw
    by_cases hlt : p ≤ m
    · have hltI : (p : Int) ≤ m := by omega
      have HST := Lib.hid (show leastF F (p + 1) = lsrO (leastF F p) (F p) from rfl)
      have HLB := Lib.hid (show ∀ o, leastF F p = some o → o < 2 ^ N from fun o ho => by
        by_cases h0 : p = 0
        · subst h0; cases ho
        · obtain ⟨t, -, ht⟩ := leastF_at (f := F) p (by omega)
          exact HBD.out t o (ht.trans ho))
      have HFB := Lib.hid (HBD.out p)
      obtain ⟨O1, hO1⟩ : ∃ o, leastF F p = o := ⟨_, rfl⟩
      obtain ⟨O2, hO2⟩ : ∃ o, F p = o := ⟨_, rfl⟩
      have HC1 := Lib.hid (HCL.out wr p hlt HW.out)
      rw [hO1] at HQ HST HLB
      rw [hO2] at HST HFB HC1
      clear hO1 hO2
      go_wp2_with fail
      refine HC1.out.mono ?_
      rintro e w4 ⟨rfl, hb4⟩
      cases O2 with
      | none =>
        unfold oV oB oS
        have h2 : Below w4.heap.size w4 (w4.alloc (.cells #[.bool true, .string (mg 1)] 29)) := (Below.refl _ _).alloc (Nat.le_refl _) _
        have hst := hb4.trans (h2.mono hb4.size)
        have HQ3 := Lib.hid (HQ.out.below hst)
        have HR3 := Lib.hid (HR.out.below hst)
        have HW3 := Lib.hid (bstep HW.out hst)
        have bT := Lib.hid (BC.new w4 w4.heap.size #[.bool true, .string (mg 1)] 29 rfl)
        obtain ⟨Q7, hQ7⟩ : ∃ q, w4.heap.size = q := ⟨_, rfl⟩
        rw [hQ7] at bT
        obtain ⟨X4, hX4⟩ : ∃ X, w4.alloc (.cells #[.bool true, .string (mg 1)] 29) = X := ⟨_, rfl⟩
        rw [hX4] at HQ3 HR3 HW3 bT
        have t0 := bT.out.at 0 _ rfl
        have t1 := bT.out.at 1 _ rfl
        clear hst h2 hb4 HQ HR HW
        go_wp2_with fail
        go_roundg (m + 1 - p)
        case rel =>
          refine ⟨p + 1, by go_num, by omega, by omega, ?_, HR3.out, HW3.out⟩
          rw [HST.out]
          cases O1 <;> exact HQ3.out
        case measure => have := HG.out; omega
      | some x =>
        have hx := HFB.out x rfl
        unfold oV oB oS
        have h2 : Below w4.heap.size w4 (w4.alloc (.cells #[.bool false, .string (mg x)] 29)) := (Below.refl _ _).alloc (Nat.le_refl _) _
        have hst := hb4.trans (h2.mono hb4.size)
        have HQ3 := Lib.hid (HQ.out.below hst)
        have HR3 := Lib.hid (HR.out.below hst)
        have HW3 := Lib.hid (bstep HW.out hst)
        have bT := Lib.hid (BC.new w4 w4.heap.size #[.bool false, .string (mg x)] 29 rfl)
        obtain ⟨Q7, hQ7⟩ : ∃ q, w4.heap.size = q := ⟨_, rfl⟩
        rw [hQ7] at bT
        obtain ⟨X4, hX4⟩ : ∃ X, w4.alloc (.cells #[.bool false, .string (mg x)] 29) = X := ⟨_, rfl⟩
        rw [hX4] at HQ3 HR3 HW3 bT
        have t0 := bT.out.at 0 _ rfl
        have t1 := bT.out.at 1 _ rfl
        clear hst h2 hb4 HQ HR HW
        cases O1 with
        | none =>
          have HQ4 := Lib.hid (show BC X4 Q [.bool true, .string (mg 1)] from HQ3.out)
          clear HQ3
          have q0 := HQ4.out.at 0 _ rfl
          have q1 := HQ4.out.at 1 _ rfl
          have z0 := HQ4.out.z 0 (by simp)
          have z1 := HQ4.out.z 1 (by simp)
          go_wp2_with fail
          go_roundg (m + 1 - p)
          case rel =>
            refine ⟨p + 1, by go_num, by omega, by omega, ?_, ?_, ?_⟩
            · rw [HST.out]
              exact HQ4.out.set2 0 1 (.bool false) (.string (mg x)) (by simp) (by simp)
            · exact (HR3.out.other 0 _ (by have := HLT.out; omega)).other 1 _ (by have := HLT.out; omega)
            · exact (HW3.out.setCell (p := ⟨Q, 0, none⟩) (by have := HLT.out; have := HP.out; show w.heap.size ≤ Q; omega) _).setCell (p := ⟨Q, 1, none⟩) (by have := HLT.out; have := HP.out; show w.heap.size ≤ Q; omega) _
          case measure => have := HG.out; omega
        | some o =>
          have ho := HLB.out o rfl
          have HQ4 := Lib.hid (show BC X4 Q [.bool false, .string (mg o)] from HQ3.out)
          clear HQ3
          have q0 := HQ4.out.at 0 _ rfl
          have q1 := HQ4.out.at 1 _ rfl
          have HCM := Lib.hid (fun Y => cCmpN (x := x) (d := o) N N hx ho (by omega) (by omega) Y)
          obtain ⟨c, hc⟩ : ∃ c, cmpI (x : Int) (o : Int) = c := ⟨_, rfl⟩
          rw [hc] at HCM
          have hcl : c < 0 ↔ x < o := by
            rw [← hc]
            have := cmpI_lt0 (x : Int) (o : Int)
            rw [decide_eq_decide] at this
            omega
          have HCC := Lib.hid hcl
          clear hc hcl hx ho
          go_wp2_with fail
          refine (HCM.out _).mono ?_
          rintro e w5 ⟨rfl, hb5⟩
          have HQ5 := Lib.hid (HQ4.out.below hb5)
          have HR5 := Lib.hid (HR3.out.below hb5)
          have HW5 := Lib.hid (bstep HW3.out hb5)
          have bT5 := bT.out.below hb5
          have t0 := bT5.at 0 _ rfl
          have t1 := bT5.at 1 _ rfl
          have q0 := HQ5.out.at 0 _ rfl
          have q1 := HQ5.out.at 1 _ rfl
          have z0 := HQ5.out.z 0 (by simp)
          have z1 := HQ5.out.z 1 (by simp)
          clear hb5 bT5 bT HQ4 HR3 HW3
          by_cases hc0 : c < 0
          · have hlo := HCC.out.1 hc0
            have HST2 := Lib.hid (show leastF F (p + 1) = some x from by rw [HST.out, lsrO_ss, if_pos hlo])
            clear hlo
            go_wp2_with fail
            go_roundg (m + 1 - p)
            case rel =>
              refine ⟨p + 1, by go_num, by omega, by omega, ?_, ?_, ?_⟩
              · rw [HST2.out]
                exact HQ5.out.set2 0 1 (.bool false) (.string (mg x)) (by simp) (by simp)
              · exact (HR5.out.other 0 _ (by have := HLT.out; omega)).other 1 _ (by have := HLT.out; omega)
              · exact (HW5.out.setCell (p := ⟨Q, 0, none⟩) (by have := HLT.out; have := HP.out; show w.heap.size ≤ Q; omega) _).setCell (p := ⟨Q, 1, none⟩) (by have := HLT.out; have := HP.out; show w.heap.size ≤ Q; omega) _
            case measure => have := HG.out; omega
          · have hB : decide (c < 0) = false := by simpa using hc0
            have HST2 := Lib.hid (show leastF F (p + 1) = some o from by rw [HST.out, lsrO_ss, if_neg fun h => hc0 (HCC.out.2 h)])
            go_wp2_with fail
            go_roundg (m + 1 - p)
            case rel =>
              refine ⟨p + 1, by go_num, by omega, by omega, ?_, HR5.out, HW5.out⟩
              rw [HST2.out]
              exact HQ5.out
            case measure => have := HG.out; omega
    · obtain rfl : p = m + 1 := by omega
      have hB : decide (((m + 1 : Nat) : Int) ≤ m) = false := by simp; omega
      have hBN : ¬ ((m + 1 : Nat) : Int) ≤ (m : Int) := by omega
      obtain ⟨V, hV⟩ : ∃ V, leastF F (m + 1) = V := ⟨_, rfl⟩
      rw [hV] at HQ
      obtain ⟨b, hb⟩ : ∃ b, oB V = b := ⟨_, rfl⟩
      obtain ⟨u, hu⟩ : ∃ u, oS V = u := ⟨_, rfl⟩
      rw [hb, hu] at HQ
      have HV := Lib.hid (show oV (leastF F (m + 1)) = .agg #[.bool b, .string u] from by rw [hV]; unfold oV; rw [hb, hu])
      have q0 := HQ.out.at 0 _ rfl
      have q1 := HQ.out.at 1 _ rfl
      have z0 := HR.out.z 0 (by simp)
      have z1 := HR.out.z 1 (by simp)
      have y0 := HR.out.at 0 _ rfl
      have y1 := HR.out.at 1 _ rfl
      have bS := HR.out.set2 0 1 (.bool b) (.string u) (by simp) (by simp)
      have s0 := bS.at 0 _ rfl
      have s1 := bS.at 1 _ rfl
      have HBF := Lib.hid ((HW.out.setCell (p := ⟨p4, 0, none⟩) (by have := HP.out; show w.heap.size ≤ p4; omega) (.bool b)).setCell (p := ⟨p4, 1, none⟩) (by have := HP.out; show w.heap.size ≤ p4; omega) (.string u))
      clear bS hb hu hV
      go_wp2
      refine bodyPost_ret (v := .agg #[.bool b, .string u]) (by simp [results, Tryz.results44, go_sem, s0, s1]) rfl ?_
      rw [HV.out]
      refine ⟨rfl, ?_⟩
      have := HBF.out
      rwa [HP.out] at this
set_option maxRecDepth 100000 in
set_option maxHeartbeats 1600000 in
theorem npc_any (n m s t g j k i p r N bt bj bk bi : Nat) (O : List Nat) (w : World) (hn : n ≤ 12) (hm : m ≤ 64) (hj : j < m) (hk : k ≤ n) (hp : p ≤ k) (hi : i + p ≤ n) (hN : N ≤ 1000)
    (hr : w.cell? ⟨t, j + 1, none⟩ = some (.slice (some ⟨g, 0, none⟩) ((n + 1) * (n + 1)) ((n + 1) * (n + 1)))) (hg : RowT w g O n r) (hs : SumT w s O n) (hO : O.sum < 2 ^ N) (hT : ∀ k i x, tb O n r k i = some x → x < 2 ^ N)
    (hbt : BC w bt [.int .i64 (n : Int), .slice (some ⟨s, 0, none⟩) (n + 1) (n + 1), .slice (some ⟨t, 0, none⟩) (m + 1) (m + 1)]) (hbj : BC w bj [.int .i64 (j : Int)]) (hbk : BC w bk [.int .i64 (k : Int)]) (hbi : BC w bi [.int .i64 (i : Int)]) :
    Calls Tryz.prog 45 #[.int .i64 p, .pointer (some ⟨bt, 0, none⟩), .pointer (some ⟨bj, 0, none⟩), .pointer (some ⟨bk, 0, none⟩), .pointer (some ⟨bi, 0, none⟩)] w fun e w' => e = .returned (oV (plc O n r k i p)) ∧ Below w.heap.size w w' := by
  have HPL := Lib.hid (fun W (h : Below w.heap.size w W) => place39_any n m s t g j k i p r N O W hn hm hj hk hp hi hN (cellBelow hr h) (hg.below h) (hs.below h) hO hT)
  obtain ⟨V, hV⟩ : ∃ V, plc O n r k i p = V := ⟨_, rfl⟩
  rw [hV] at HPL ⊢
  obtain ⟨b, hb⟩ : ∃ b, oB V = b := ⟨_, rfl⟩
  obtain ⟨u, hu⟩ : ∃ u, oS V = u := ⟨_, rfl⟩
  have HV := Lib.hid (show oV V = .agg #[.bool b, .string u] from by unfold oV; rw [hb, hu])
  rw [HV.out] at HPL
  unfold plV at HPL
  have hb1 : Below w.heap.size w (w.alloc (.cells #[.bool false, .string ⟨#[]⟩] 29)) := (Below.refl _ _).alloc (Nat.le_refl _) _
  have bR := BC.new w w.heap.size #[.bool false, .string ⟨#[]⟩] 29 rfl
  have b1 := hbt.below hb1
  have b2 := hbj.below hb1
  have b3 := hbk.below hb1
  have b4 := hbi.below hb1
  obtain ⟨p6, hp6⟩ : ∃ p, w.heap.size = p := ⟨_, rfl⟩
  have HP := Lib.hid hp6
  obtain ⟨X, hX⟩ : ∃ X, w.alloc (.cells #[.bool false, .string ⟨#[]⟩] 29) = X := ⟨_, rfl⟩
  rw [hX] at hb1 bR b1 b2 b3 b4
  rw [hp6] at bR
  have a0 := b1.at 0 _ rfl
  have a1 := b1.at 1 _ rfl
  have a2 := b1.at 2 _ rfl
  have j0 := b2.at 0 _ rfl
  have k0 := b3.at 0 _ rfl
  have i0 := b4.at 0 _ rfl
  have HBX := Lib.hid hb1
  have HBR := Lib.hid bR
  have HC := Lib.hid (HPL.out X hb1)
  clear hb1 bR b1 b2 b3 b4 hbt hbj hbk hbi hr hg hs hO hT hV hb hu hj hk hp hi
  go_enter Tryz.func45, Tryz.ntmps45
  go_wp2_with fail
  refine HC.out.mono ?_
  rintro e w1 ⟨rfl, hb⟩
  have bR1 := HBR.out.below hb
  have HB1 := Lib.hid (bstep HBX.out hb)
  have z0 := bR1.z 0 (by simp)
  have z1 := bR1.z 1 (by simp)
  have y0 := bR1.at 0 _ rfl
  have y1 := bR1.at 1 _ rfl
  have bS := bR1.set2 0 1 (.bool b) (.string u) (by simp) (by simp)
  have s0 := bS.at 0 _ rfl
  have s1 := bS.at 1 _ rfl
  have HBF := Lib.hid ((HB1.out.setCell (p := ⟨p6, 0, none⟩) (by have := HP.out; show w.heap.size ≤ p6; omega) (.bool b)).setCell (p := ⟨p6, 1, none⟩) (by have := HP.out; show w.heap.size ≤ p6; omega) (.string u))
  clear hb bR1 bS a0 a1 a2 j0 k0 i0
  go_wp2
  refine bodyPost_ret (v := .agg #[.bool b, .string u]) (by simp [results, Tryz.results45, go_sem, s0, s1]) rfl ?_
  rw [HV.out]
  exact ⟨rfl, HBF.out⟩
end Go.Proofs.Gv

namespace Go.Proofs.Gv
open Go Go.RowKit Go.Maps

theorem swap_list (A D : List Nat) (x y : Nat) : ((natV (A ++ y :: x :: D)).set (A.length + 1) (.int .i64 (y : Int))).set A.length (.int .i64 (x : Int)) = natV (A ++ x :: y :: D) := by
  unfold natV
  rw [List.map_append, List.map_append, List.set_append, if_neg (by rw [List.length_map]; omega), List.length_map, Nat.add_sub_cancel_left, List.set_append, if_neg (by rw [List.length_map]; omega), List.length_map, Nat.sub_self]
  rfl
theorem quiet_cB {w W : World} {f : Nat} {args : Array Value} {v : Value} (hW : Below w.heap.size w W) (h : ∀ X, Below w.heap.size w X → Calls Tryz.prog f args X fun e w' => e = .returned v ∧ Below X.heap.size X w') (u : Cl W) :
    Calls Tryz.prog f args u.x fun e w'' => e = .returned v ∧ ∃ u' : Cl W, w'' = u'.x :=
  (h u.x (bstep hW u.h)).mono fun _ w' ⟨he, hb⟩ => ⟨he, ⟨⟨w', bstep u.h hb⟩, rfl⟩⟩
section
variable (g f n cp : Nat) (lb : Array Value) (W : Nat → Nat) (c : Nat → Nat → Int) (hn1 : 1 ≤ n) (hn : n ≤ 12) (w : World)
  (eg : ∀ args X, (callFunc f args).run Tryz.prog X = .ok (.enter f args) X)
  (hc : ∀ x y, c x y < 0 ↔ W y < W x)
  (hcl : ∀ X x y, x < n → y < n → w.grownBy X (some g) → Calls Tryz.prog f (#[.int .i64 (x : Int), .int .i64 (y : Int)] ++ lb) X fun e w' => e = .returned (.int .i64 (c x y)) ∧ Below X.heap.size X w')
  (hb : BC w g (natV (List.range n)))
include hn1 hn eg hc hcl hb
set_option maxRecDepth 100000 in
set_option maxHeartbeats 4000000 in
theorem isort_any : Calls Tryz.prog 108 #[.slice (some ⟨g, 0, none⟩) n cp, .int .i64 0, .int .i64 n, .func (.func f) #[] lb] w fun e w' =>
    e = .returned (.tuple #[]) ∧ BC w' g (natV (ordR W n).reverse) ∧ w.grownBy w' (some g) := by
  have HC := Lib.hid hc
  have HCL := Lib.hid hcl
  have HB := Lib.hid hb
  clear hc hcl hb
  go_enter Tryz.func108, Tryz.ntmps108
  go_wp2_with fail
  go_loopg [8] (n + 1) (fun gg v8 wr => ∃ i : Nat, v8 = .int .i64 (i : Int) ∧ 1 ≤ i ∧ i ≤ n ∧ n - i < gg ∧ BC wr g (natV (outSt W n i)) ∧ w.grownBy wr (some g))
  case atStart => exact ⟨1, rfl, Nat.le_refl _, hn1, by omega, by rw [out_start W hn1]; exact HB.out, ⟨rfl, rfl, rfl, Nat.le_refl _, fun _ _ _ => rfl⟩⟩
  case round =>
    obtain ⟨i, rfl, hi1, hi, hig, hb, hgw⟩ := hrel
    clear HB
    have HG := Lib.hid hig
    have HB := Lib.hid hb
    have HGW := Lib.hid hgw
    clear hig hb hgw
    by_cases hlt : i < n
    · have hltI : (i : Int) < n := by omega
      go_wp2_with fail
      go_loopg [9] (n + 1) (fun gg v9 wq => ∃ j m : Nat, v9 = .int .i64 (j : Int) ∧ j + m = i ∧ j < gg ∧ BC wq g (natV (insSt W n i m)) ∧ w.grownBy wq (some g) ∧ ∀ t y, t < m → (ordR W i)[t]? = some y → W y < W i)
      case atStart => exact ⟨i, 0, rfl, rfl, by omega, by rw [← out_ins W hlt]; exact HB.out, HGW.out, fun t y h => by omega⟩
      case round =>
        obtain ⟨j, m, rfl, hjm, hjg, hb, hgw, hall⟩ := hrel
        clear HB HGW
        have HJG := Lib.hid hjg
        have HB := Lib.hid hb
        have HGW := Lib.hid hgw
        have HALL := Lib.hid hall
        have HJM := Lib.hid hjm
        have hj12 : j ≤ 12 := by omega
        clear hjg hb hgw hall hjm
        by_cases hj0 : 0 < j
        · have hj0I : (0 : Int) < (j : Int) := by omega
          obtain ⟨y, hy⟩ : ∃ y, (ordR W i)[m]? = some y := ⟨(ordR W i)[m]'(by rw [ordR_len]; have := HJM.out; omega), List.getElem?_eq_getElem _⟩
          have hyi : y < i := (ordR_mem W y i).1 (List.mem_of_getElem? hy)
          obtain ⟨A, D, e1, e2, e3⟩ := ins_step W (n := n) hy
          obtain ⟨r, hr⟩ : ∃ r, j - 1 = r := ⟨_, rfl⟩
          have hrI : (j : Int) - 1 = (r : Int) := by omega
          have hAr : A.length = r := by have := HJM.out; omega
          have hb := HB.out
          rw [e1] at hb
          have l0 : (A ++ y :: i :: D)[r]? = some y := by rw [List.getElem?_append_right (by omega), hAr, Nat.sub_self]; rfl
          have l1 : (A ++ y :: i :: D)[j]? = some i := by rw [List.getElem?_append_right (by omega), hAr, show j - r = 1 by omega]; rfl
          have hlen : (A ++ y :: i :: D).length = n := by rw [← e1]; exact ins_len W hlt (by have := HJM.out; omega)
          have c0 := hb.at r _ (natV_is l0)
          have c1 := hb.at j _ (natV_is l1)
          have z0 := hb.z r (by rw [natV_length, hlen]; omega)
          have z1 := hb.z j (by rw [natV_length, hlen]; have := HJM.out; omega)
          have hjn : (j : Int) < n := by have := HJM.out; omega
          have hrn : (r : Int) < n := by have := HJM.out; omega
          have HN := Lib.hid (show BC ((wr.setCell ⟨g, j, none⟩ (.int .i64 (y : Int))).setCell ⟨g, r, none⟩ (.int .i64 (i : Int))) g (natV (insSt W n i (m + 1))) from by
            have := (hb.set j (.int .i64 (y : Int)) (by rw [natV_length, hlen]; have := HJM.out; omega)).set r (.int .i64 (i : Int)) (by rw [List.length_set, natV_length, hlen]; omega)
            rw [e3, ← swap_list, hAr, show r + 1 = j by omega]
            exact this)
          have HK := Lib.hid (fun Y (h : Below wr.heap.size wr Y) => HCL.out Y i y hlt (by omega) (HGW.out.andThen (gRow h (some g)) (fun k e => .inr e)))
          have k0 : ∀ u : Cl wr, u.x.cell? ⟨g, r, none⟩ = some (.int .i64 (y : Int)) := fun u => (u.h.cell (World.block_lt_of_cell? _ _ c0)).trans c0
          have k1 : ∀ u : Cl wr, u.x.cell? ⟨g, j, none⟩ = some (.int .i64 (i : Int)) := fun u => (u.h.cell (World.block_lt_of_cell? _ _ c1)).trans c1
          have HLT := Lib.hid (HC.out i y)
          obtain ⟨q, hq⟩ : ∃ q, c i y = q := ⟨_, rfl⟩
          rw [hq] at HK HLT
          have HYY := Lib.hid hy
          have HFB := Lib.hid (show ∀ Y, Below wr.heap.size wr Y → BC Y g (natV (insSt W n i m)) ∧ w.grownBy Y (some g) from fun Y h => ⟨HB.out.below h, HGW.out.andThen (gRow h (some g)) (fun k e => .inr e)⟩)
          haveI := cls_some wr
          clear hq hy hyi e1 e2 e3 hr hAr hb l0 l1 hlen c0 c1 z0 z1 HN HB
          clear A D
          go_wp2_with fail
          refine wp_region_cls (by kernel_rfl) ?_
          iterate 14 (go_big_quiet_step (fail))
          go_big_quiet_step ((exact quiet_cB (Below.refl _ _) HK.out _))
          iterate 2 (go_big_quiet_step (fail))
          refine wpQuiet_nil ?_
          intro w7 hw7
          obtain ⟨u7, rfl⟩ := hw7
          have HF7 := Lib.hid (HFB.out u7.x u7.h)
          clear k0 k1
          by_cases hlq : q < 0
          · have hyx := HLT.out.1 hlq
            obtain ⟨A, D, e1, e2, e3⟩ := ins_step W (n := n) HYY.out
            have hAr : A.length = r := by have := HJM.out; omega
            have hb := HF7.out.1
            rw [e1] at hb
            have l0 : (A ++ y :: i :: D)[r]? = some y := by rw [List.getElem?_append_right (by omega), hAr, Nat.sub_self]; rfl
            have l1 : (A ++ y :: i :: D)[j]? = some i := by rw [List.getElem?_append_right (by omega), hAr, show j - r = 1 by omega]; rfl
            have hlen : (A ++ y :: i :: D).length = n := by rw [← e1]; exact ins_len W hlt (by have := HJM.out; omega)
            have c0 := hb.at r _ (natV_is l0)
            have c1 := hb.at j _ (natV_is l1)
            have z0 := hb.z r (by rw [natV_length, hlen]; omega)
            have z1 := hb.z j (by rw [natV_length, hlen]; have := HJM.out; omega)
            have HN := Lib.hid (show BC ((u7.x.setCell ⟨g, j, none⟩ (.int .i64 (y : Int))).setCell ⟨g, r, none⟩ (.int .i64 (i : Int))) g (natV (insSt W n i (m + 1))) from by
              have := (hb.set j (.int .i64 (y : Int)) (by rw [natV_length, hlen]; have := HJM.out; omega)).set r (.int .i64 (i : Int)) (by rw [List.length_set, natV_length, hlen]; omega)
              rw [e3, ← swap_list, hAr, show r + 1 = j by omega]
              exact this)
            have HW := Lib.hid (show w.grownBy ((u7.x.setCell ⟨g, j, none⟩ (.int .i64 (y : Int))).setCell ⟨g, r, none⟩ (.int .i64 (i : Int))) (some g) from (HF7.out.2.andThen (gSetB _ g j _) (fun k e => .inr e)).andThen (gSetB _ g r _) (fun k e => .inr e))
            have HAL2 := Lib.hid (show ∀ t z, t < m + 1 → (ordR W i)[t]? = some z → W z < W i from fun t z ht hz => by
              by_cases htm : t < m
              · exact HALL.out t z htm hz
              · obtain rfl : t = m := by omega
                rw [HYY.out] at hz
                cases hz
                exact hyx)
            obtain ⟨X, hX⟩ : ∃ X, u7.x = X := ⟨_, rfl⟩
            rw [hX] at c0 c1 z0 z1 HN HW ⊢
            have hrj : ¬ r = j := by omega
            have hjr : ¬ j = r := by omega
            clear hX hb l0 l1 hlen hAr e1 e2 e3 hyx HF7
            clear A D
            go_wp2_with fail
            go_region
            go_wp2
            go_roundg j
            case rel => exact ⟨r, m + 1, by go_num, by have := HJM.out; omega, by omega, HN.out.drew, gDrewB HW.out, HAL2.out⟩
            case measure => have := HJG.out; omega
          · have hB : decide (q < 0) = false := by simpa using hlq
            have HST := Lib.hid (ins_stop W (n := n) (show m ≤ i by have := HJM.out; omega) HALL.out (fun z hz => by
              rw [HYY.out] at hz
              cases hz
              exact fun h => hlq (HLT.out.2 h)))
            have hb := HF7.out.1
            rw [HST.out] at hb
            have HB2 := Lib.hid hb
            clear hb
            go_wp2_with fail
            go_roundg (n - i)
            case rel => exact ⟨i + 1, by go_num, by omega, by omega, by omega, HB2.out, HF7.out.2⟩
            case measure => have := HG.out; omega
        · obtain rfl : j = 0 := by omega
          have hB : decide ((0 : Int) < ((0 : Nat) : Int)) = false := by decide
          obtain rfl : m = i := by have := HJM.out; omega
          have HST := Lib.hid (ins_stop W (n := n) (Nat.le_refl m) HALL.out (fun z hz => by
            have := (List.getElem?_eq_some_iff.1 hz).1
            rw [ordR_len] at this
            omega))
          have hb := HB.out
          rw [HST.out] at hb
          have HB2 := Lib.hid hb
          clear hb HB
          go_wp2_with fail
          go_quiet (fail)
          go_wp2
          go_roundg (n - m)
          case rel => exact ⟨m + 1, by go_num, by omega, by omega, by omega, HB2.out.below (below_drewN (Below.refl _ _)), HGW.out.andThen (gRow (below_drewN (Below.refl _ _)) (some g)) (fun k e => .inr e)⟩
          case measure => have := HG.out; omega
    · obtain rfl : n = i := by omega
      have hB : decide ((n : Int) < n) = false := by simp
      go_wp2
      go_end0
      exact ⟨rfl, by rw [← out_end]; exact HB.out, HGW.out⟩
end
end Go.Proofs.Gv
