/- grooveref39.check; grooveref39.Cost: printed by mk_mle.py. -/
import Derived.Test.YtglgiofjgfbfgaaMta
import Derived.Test.YtglgiofjgfbfgaaLim3P
set_option linter.unusedSimpArgs false
set_option linter.unusedVariables false
namespace Go.Proofs.Gv
open Go Go.RowKit Go.Maps

theorem rlnE_two (L : List (Bool × ByteArray)) : rlnE 2 L = chkW L := by unfold rlnE; rw [if_neg (by decide)]
set_option maxRecDepth 100000 in
set_option maxHeartbeats 8000000 in
theorem rcheck39_any (cap : Nat) (a : Option Addr) (L : List (Bool × ByteArray)) (m : Int) (hL : L.length ≤ maxLen) (h12 : L.length ≤ 12 ∨ 64 < L.length) (hz : ∀ x ∈ L, x.2.size ≤ 8) (hm : (Lit.int .i64 m).wf = true) (w : World) (hSl : Sl w a L) :
    Calls Try.prog 59 #[.slice a L.length cap, .int .i64 m] w fun e w' => e = .returned (.int .i64 (limE L m)) ∧ Below w.heap.size w w' := by
  have HM := Lib.hid ((rLen_any cap a L 2 (by decide) hL h12 hz w hSl).mono (fun e w' h => (show ∃ v, e = .returned (.tuple #[v, .int .i64 (chkW L)]) ∧ Below w.heap.size w w' from by
    obtain ⟨g1, g2, g3⟩ := h
    rw [rlnE_two] at g1 g2
    by_cases h0 : chkW L = 0
    · obtain ⟨Ws, g, c, -, h4, -⟩ := g2 h0
      exact ⟨_, by rw [h0]; exact h4, g3⟩
    · obtain ⟨b, h4⟩ := g1 h0
      exact ⟨_, h4, g3⟩)))
  clear hSl hz h12
  by_cases h0 : ¬ chkW L = 0
  · have hE : limE L m = chkW L := by unfold limE; rw [if_pos h0]
    rw [hE]
    obtain ⟨E, hE⟩ : ∃ E, chkW L = E := ⟨_, rfl⟩
    rw [hE] at HM h0 ⊢
    have hne : (E != 0) = true := by simpa using h0
    clear hE h0
    go_enter Try.func59, Try.ntmps59
    go_wp2_with fail
    refine HM.out.mono ?_
    rintro e w1 ⟨v, rfl, hb⟩
    go_wp2
    go_ret
    exact ⟨rfl, hb⟩
  · have h0 := Decidable.not_not.1 h0
    rw [h0] at HM
    obtain ⟨-, h64, -⟩ := chkW_ok h0
    obtain ⟨n, hn⟩ : ∃ n, L.length = n := ⟨_, rfl⟩
    have HE := Lib.hid (show limE L m = if m < 1 ∨ 64 < m then 2 else if m < 7 ∧ 2 ^ m.toNat < n then 15 else 0 from by unfold limE; rw [if_neg (by simp [h0]), hn])
    rw [hn] at HM h64 ⊢
    obtain ⟨E, hEE⟩ : ∃ E, limE L m = E := ⟨_, rfl⟩
    rw [hEE] at HE ⊢
    clear hn h0 hL hEE
    by_cases h1 : m < 1
    · have HV := Lib.hid (show E = 2 from by rw [HE.out, if_pos (.inl h1)])
      go_enter Try.func59, Try.ntmps59
      go_wp2_with fail
      refine HM.out.mono ?_
      rintro e w1 ⟨v, rfl, hb⟩
      go_wp2
      go_ret
      exact ⟨by rw [HV.out]; rfl, hb⟩
    by_cases h2 : 64 < m
    · have HV := Lib.hid (show E = 2 from by rw [HE.out, if_pos (.inr h2)])
      have h1B : decide (m < 1) = false := by simp; omega
      go_enter Try.func59, Try.ntmps59
      go_wp2_with fail
      refine HM.out.mono ?_
      rintro e w1 ⟨v, rfl, hb⟩
      go_wp2
      go_ret
      exact ⟨by rw [HV.out]; rfl, hb⟩
    have h1B : decide (m < 1) = false := by simp; omega
    have h2B : decide (64 < m) = false := by simp; omega
    by_cases h7 : m < 7
    · obtain ⟨k, rfl, hk1, hk6⟩ : ∃ k : Nat, m = (k : Int) ∧ 1 ≤ k ∧ k ≤ 6 := ⟨m.toNat, by omega, by omega, by omega⟩
      have hE2 := HE.out
      rw [if_neg (by omega), Int.toNat_natCast] at hE2
      have cases6 : k = 1 ∨ k = 2 ∨ k = 3 ∨ k = 4 ∨ k = 5 ∨ k = 6 := by omega
      clear HE h1 h2 h7 h1B h2B hk1 hk6 hm
      rcases cases6 with rfl | rfl | rfl | rfl | rfl | rfl
      · have hE3 : E = if 2 < n then 15 else 0 := by
          rw [hE2]
          by_cases h : 2 < n
          · rw [if_pos ⟨by decide, h⟩, if_pos h]
          · rw [if_neg fun h2 => h h2.2, if_neg h]
        clear hE2
        by_cases hlt : 2 < n
        · rw [if_pos hlt] at hE3
          have HV := Lib.hid hE3
          have hltI : (2 : Int) < (n : Int) := by omega
          clear hE3 hlt
          go_enter Try.func59, Try.ntmps59
          go_wp2_with fail
          refine HM.out.mono ?_
          rintro e w1 ⟨v, rfl, hb⟩
          go_wp2
          go_ret
          exact ⟨by rw [HV.out]; rfl, hb⟩
        · rw [if_neg hlt] at hE3
          have HV := Lib.hid hE3
          have hltI : ¬ (2 : Int) < (n : Int) := by omega
          have hltB : decide ((2 : Int) < (n : Int)) = false := by simp; omega
          clear hE3 hlt
          go_enter Try.func59, Try.ntmps59
          go_wp2_with fail
          refine HM.out.mono ?_
          rintro e w1 ⟨v, rfl, hb⟩
          go_wp2
          go_ret
          exact ⟨by rw [HV.out]; rfl, hb⟩
      · have hE3 : E = if 4 < n then 15 else 0 := by
          rw [hE2]
          by_cases h : 4 < n
          · rw [if_pos ⟨by decide, h⟩, if_pos h]
          · rw [if_neg fun h2 => h h2.2, if_neg h]
        clear hE2
        by_cases hlt : 4 < n
        · rw [if_pos hlt] at hE3
          have HV := Lib.hid hE3
          have hltI : (4 : Int) < (n : Int) := by omega
          clear hE3 hlt
          go_enter Try.func59, Try.ntmps59
          go_wp2_with fail
          refine HM.out.mono ?_
          rintro e w1 ⟨v, rfl, hb⟩
          go_wp2
          go_ret
          exact ⟨by rw [HV.out]; rfl, hb⟩
        · rw [if_neg hlt] at hE3
          have HV := Lib.hid hE3
          have hltI : ¬ (4 : Int) < (n : Int) := by omega
          have hltB : decide ((4 : Int) < (n : Int)) = false := by simp; omega
          clear hE3 hlt
          go_enter Try.func59, Try.ntmps59
          go_wp2_with fail
          refine HM.out.mono ?_
          rintro e w1 ⟨v, rfl, hb⟩
          go_wp2
          go_ret
          exact ⟨by rw [HV.out]; rfl, hb⟩
      · have hE3 : E = if 8 < n then 15 else 0 := by
          rw [hE2]
          by_cases h : 8 < n
          · rw [if_pos ⟨by decide, h⟩, if_pos h]
          · rw [if_neg fun h2 => h h2.2, if_neg h]
        clear hE2
        by_cases hlt : 8 < n
        · rw [if_pos hlt] at hE3
          have HV := Lib.hid hE3
          have hltI : (8 : Int) < (n : Int) := by omega
          clear hE3 hlt
          go_enter Try.func59, Try.ntmps59
          go_wp2_with fail
          refine HM.out.mono ?_
          rintro e w1 ⟨v, rfl, hb⟩
          go_wp2
          go_ret
          exact ⟨by rw [HV.out]; rfl, hb⟩
        · rw [if_neg hlt] at hE3
          have HV := Lib.hid hE3
          have hltI : ¬ (8 : Int) < (n : Int) := by omega
          have hltB : decide ((8 : Int) < (n : Int)) = false := by simp; omega
          clear hE3 hlt
          go_enter Try.func59, Try.ntmps59
          go_wp2_with fail
          refine HM.out.mono ?_
          rintro e w1 ⟨v, rfl, hb⟩
          go_wp2
          go_ret
          exact ⟨by rw [HV.out]; rfl, hb⟩
      · have hE3 : E = if 16 < n then 15 else 0 := by
          rw [hE2]
          by_cases h : 16 < n
          · rw [if_pos ⟨by decide, h⟩, if_pos h]
          · rw [if_neg fun h2 => h h2.2, if_neg h]
        clear hE2
        by_cases hlt : 16 < n
        · rw [if_pos hlt] at hE3
          have HV := Lib.hid hE3
          have hltI : (16 : Int) < (n : Int) := by omega
          clear hE3 hlt
          go_enter Try.func59, Try.ntmps59
          go_wp2_with fail
          refine HM.out.mono ?_
          rintro e w1 ⟨v, rfl, hb⟩
          go_wp2
          go_ret
          exact ⟨by rw [HV.out]; rfl, hb⟩
        · rw [if_neg hlt] at hE3
          have HV := Lib.hid hE3
          have hltI : ¬ (16 : Int) < (n : Int) := by omega
          have hltB : decide ((16 : Int) < (n : Int)) = false := by simp; omega
          clear hE3 hlt
          go_enter Try.func59, Try.ntmps59
          go_wp2_with fail
          refine HM.out.mono ?_
          rintro e w1 ⟨v, rfl, hb⟩
          go_wp2
          go_ret
          exact ⟨by rw [HV.out]; rfl, hb⟩
      · have hE3 : E = if 32 < n then 15 else 0 := by
          rw [hE2]
          by_cases h : 32 < n
          · rw [if_pos ⟨by decide, h⟩, if_pos h]
          · rw [if_neg fun h2 => h h2.2, if_neg h]
        clear hE2
        by_cases hlt : 32 < n
        · rw [if_pos hlt] at hE3
          have HV := Lib.hid hE3
          have hltI : (32 : Int) < (n : Int) := by omega
          clear hE3 hlt
          go_enter Try.func59, Try.ntmps59
          go_wp2_with fail
          refine HM.out.mono ?_
          rintro e w1 ⟨v, rfl, hb⟩
          go_wp2
          go_ret
          exact ⟨by rw [HV.out]; rfl, hb⟩
        · rw [if_neg hlt] at hE3
          have HV := Lib.hid hE3
          have hltI : ¬ (32 : Int) < (n : Int) := by omega
          have hltB : decide ((32 : Int) < (n : Int)) = false := by simp; omega
          clear hE3 hlt
          go_enter Try.func59, Try.ntmps59
          go_wp2_with fail
          refine HM.out.mono ?_
          rintro e w1 ⟨v, rfl, hb⟩
          go_wp2
          go_ret
          exact ⟨by rw [HV.out]; rfl, hb⟩
      · have hE3 : E = if 64 < n then 15 else 0 := by
          rw [hE2]
          by_cases h : 64 < n
          · rw [if_pos ⟨by decide, h⟩, if_pos h]
          · rw [if_neg fun h2 => h h2.2, if_neg h]
        clear hE2
        by_cases hlt : 64 < n
        · rw [if_pos hlt] at hE3
          have HV := Lib.hid hE3
          have hltI : (64 : Int) < (n : Int) := by omega
          clear hE3 hlt
          go_enter Try.func59, Try.ntmps59
          go_wp2_with fail
          refine HM.out.mono ?_
          rintro e w1 ⟨v, rfl, hb⟩
          go_wp2
          go_ret
          exact ⟨by rw [HV.out]; rfl, hb⟩
        · rw [if_neg hlt] at hE3
          have HV := Lib.hid hE3
          have hltI : ¬ (64 : Int) < (n : Int) := by omega
          have hltB : decide ((64 : Int) < (n : Int)) = false := by simp; omega
          clear hE3 hlt
          go_enter Try.func59, Try.ntmps59
          go_wp2_with fail
          refine HM.out.mono ?_
          rintro e w1 ⟨v, rfl, hb⟩
          go_wp2
          go_ret
          exact ⟨by rw [HV.out]; rfl, hb⟩
    · have HV := Lib.hid (show E = 0 from by rw [HE.out, if_neg (by omega), if_neg fun h => h7 h.1])
      have h7B : decide (m < 7) = false := by simp; omega
      go_enter Try.func59, Try.ntmps59
      go_wp2_with fail
      refine HM.out.mono ?_
      rintro e w1 ⟨v, rfl, hb⟩
      go_wp2
      go_ret
      exact ⟨by rw [HV.out]; rfl, hb⟩
set_option maxRecDepth 100000 in
set_option maxHeartbeats 4000000 in
theorem rCost39_any (cap : Nat) (a : Option Addr) (L : List (Bool × ByteArray)) (m : Int) (hc : L.length ≤ cap) (hcm : cap ≤ maxLen) (h12 : L.length ≤ 12 ∨ 64 < L.length) (hz : ∀ x ∈ L, x.2.size ≤ 8) (hm : (Lit.int .i64 m).wf = true) (w : World) (hSl : Sl w a L) :
    Calls Try.prog 25 #[.slice a L.length cap, .int .i64 m] w (LCs L m w) := by
  have HCK := Lib.hid (fun W (hb : Below w.heap.size w W) => rcheck39_any cap a L m (Nat.le_trans hc hcm) h12 hz hm W (hSl.below hb))
  have hb1 : Below w.heap.size w (w.alloc (.cells #[.bool false, .string ⟨#[]⟩] 29)) := (Below.refl _ _).alloc (Nat.le_refl _) _
  have bR := BC.new w w.heap.size #[.bool false, .string ⟨#[]⟩] 29 rfl
  obtain ⟨p, hp⟩ : ∃ p, w.heap.size = p := ⟨_, rfl⟩
  obtain ⟨X, hX⟩ : ∃ X, w.alloc (.cells #[.bool false, .string ⟨#[]⟩] 29) = X := ⟨_, rfl⟩
  rw [hX] at hb1 bR
  rw [hp] at bR
  have HBX := Lib.hid hb1
  have HBR := Lib.hid bR
  have HPP := Lib.hid hp
  have HC1 := Lib.hid (HCK.out X hb1)
  clear hb1 bR
  by_cases h0 : ¬ limE L m = 0
  · obtain ⟨E, hE⟩ : ∃ E, limE L m = E := ⟨_, rfl⟩
    have HE := Lib.hid hE
    rw [hE] at HC1 h0
    have hne : (E != 0) = true := by simpa using h0
    have HN := Lib.hid h0
    clear h0 hE hSl hz
    go_enter Try.func25, Try.ntmps25
    go_wp2_with fail
    refine HC1.out.mono ?_
    rintro e w1 ⟨rfl, hb⟩
    have HB := Lib.hid (bstep HBX.out hb)
    have b1 := HBR.out.below hb
    have t0 := b1.at 0 _ rfl
    have t1 := b1.at 1 _ rfl
    have z0 := b1.z 0 (by simp)
    have z1 := b1.z 1 (by simp)
    have bS := b1.set2 0 1 (.bool false) (.string ⟨#[]⟩) (by simp) (by simp)
    have s0 := bS.at 0 _ rfl
    have s1 := bS.at 1 _ rfl
    have HBY := Lib.hid ((HB.out.setCell (p := ⟨p, 0, none⟩) (by have := HPP.out; show w.heap.size ≤ p; omega) (.bool false)).setCell (p := ⟨p, 1, none⟩) (by have := HPP.out; show w.heap.size ≤ p; omega) (.string ⟨#[]⟩))
    clear hb b1 bS
    go_wp2
    refine bodyPost_ret (v := .tuple #[.agg #[.bool false, .string ⟨#[]⟩], .int .i64 E]) (by simp [results, Try.results25, go_sem, s0, s1]) rfl ?_
    unfold LCs
    rw [HE.out]
    exact ⟨fun _ => rfl, fun h => absurd h HN.out, HBY.out⟩
  · have h0 := Decidable.not_not.1 h0
    obtain ⟨hck, k, rfl, hk1, hk64, hk2⟩ := limE_ok h0
    obtain ⟨h2, h64, Ws, hWs⟩ := chkW_ok hck
    obtain rfl : L = VL Ws := hWs
    have HL0 := Lib.hid h0
    rw [h0] at HC1
    obtain ⟨A, rfl⟩ := hSl.some9 (by omega)
    rw [VL_len] at hc h2 h64 h12 hk2 HC1 ⊢
    have HNP := Lib.hid (fun W (hb : Below w.heap.size w W) => rtable_any A cap Ws k (by omega) (by omega) hk64 (VLlt9 hz) W (hSl.below hb))
    have HLC := Lib.hid (limC_is (Ws := Ws) hk2)
    obtain ⟨n, hn⟩ : ∃ n, Ws.length = n := ⟨_, rfl⟩
    have HNN := Lib.hid hn
    have HLN := Lib.hid (show n ≤ 12 ∧ 2 ≤ n from by omega)
    rw [hn] at HC1 HNP HLC ⊢
    clear h0 hSl hz hn hc h12 hk2 hck
    go_enter Try.func25, Try.ntmps25
    go_wp2_with fail
    refine HC1.out.mono ?_
    rintro e w1 ⟨rfl, hb⟩
    have HB := Lib.hid (bstep HBX.out hb)
    have HBR1 := Lib.hid (HBR.out.below hb)
    have HX1 := Lib.hid (HNP.out w1 HB.out)
    clear hb
    go_wp2_with fail
    refine HX1.out.mono ?_
    intro e w2 hq
    obtain ⟨T, gs, rfl, hrows, hb2⟩ := hq
    rw [HNN.out] at hrows
    obtain ⟨c0, r0⟩ := hrows 0 (Nat.zero_le _)
    rw [Nat.sub_zero] at r0
    obtain ⟨q0, q1⟩ := r0 1 0 (by have := HLN.out.2; omega) (Nat.zero_le _)
    rw [HLC.out] at q0 q1
    unfold oB at q0
    unfold oS at q1
    have HBR2 := Lib.hid (HBR1.out.below hb2)
    have HB2 := Lib.hid (bstep HB.out hb2)
    obtain ⟨n1, hn1⟩ : ∃ x, n + 1 = x := ⟨_, rfl⟩
    obtain ⟨k1, hk1'⟩ : ∃ x, k + 1 = x := ⟨_, rfl⟩
    obtain ⟨N, hN⟩ : ∃ N, n1 * n1 = N := ⟨_, rfl⟩
    rw [show 1 * (n + 1) + 0 = n1 by omega] at q0 q1
    rw [hn1, hN] at c0
    rw [hk1']
    have hn1I : (n : Int) + 1 = (n1 : Int) := by omega
    have hn13 : n1 ≤ 13 := by have := HLN.out; omega
    have hn1N : (n1 : Int) < (N : Int) := by
      rw [← hN]
      have : 2 * n1 ≤ n1 * n1 := Nat.mul_le_mul_right _ (by have := HLN.out; omega)
      have h2 := HLN.out
      omega
    have hk1I : (0 : Int) < (k1 : Int) := by omega
    have h0k : (0 : Nat) < k1 := by omega
    obtain ⟨cc, hcc⟩ : ∃ c, limC Ws k = c := ⟨_, rfl⟩
    have HCC := Lib.hid hcc
    rw [hcc] at q1
    have b1 := HBR2.out
    have t0 := b1.at 0 _ rfl
    have t1 := b1.at 1 _ rfl
    have z0 := b1.z 0 (by simp)
    have z1 := b1.z 1 (by simp)
    have bS := b1.set2 0 1 (.bool false) (.string (mg cc)) (by simp) (by simp)
    have s0 := bS.at 0 _ rfl
    have s1 := bS.at 1 _ rfl
    have HBY := Lib.hid ((HB2.out.setCell (p := ⟨p, 0, none⟩) (by have := HPP.out; show w.heap.size ≤ p; omega) (.bool false)).setCell (p := ⟨p, 1, none⟩) (by have := HPP.out; show w.heap.size ≤ p; omega) (.string (mg cc)))
    clear hrows hb2 b1 bS hcc hN hn1 hk1' r0
    go_wp2
    refine bodyPost_ret (v := .tuple #[.agg #[.bool false, .string (mg cc)], .int .i64 0]) (by simp [results, Try.results25, go_sem, s0, s1]) rfl ?_
    unfold LCs
    exact ⟨fun h => absurd HL0.out h, fun _ => ⟨Ws, rfl, by rw [Int.toNat_natCast, HCC.out]⟩, HBY.out⟩
end Go.Proofs.Gv
