/- limited.check; limited.Cost. -/
import Derived.Test.YtghjjfknlnegpaaGreatLnp
import Derived.Test.YtghjjfknlnegpaaGreatHmeqP
import Derived.Test.YtghjjfknlnegpaaGreatHordP
set_option linter.unusedSimpArgs false
set_option linter.unusedVariables false
namespace Go.Proofs.Gv
open Go Go.RowKit Go.Maps

/-- Why weights and a limit cannot be served. -/
noncomputable def limE (L : List (Bool × ByteArray)) (m : Int) : Int := if chkW L ≠ 0 then chkW L else if m < 1 ∨ 64 < m then 2 else if m < 7 ∧ 2 ^ m.toNat < L.length then 15 else 0
theorem limE_ok {L : List (Bool × ByteArray)} {m : Int} (h : limE L m = 0) : chkW L = 0 ∧ ∃ k : Nat, m = k ∧ 1 ≤ k ∧ k ≤ 64 ∧ L.length ≤ 2 ^ k := by
  unfold limE at h
  split at h
  · rename_i h1; exact absurd h h1
  · rename_i h1
    have h0 := Decidable.not_not.1 h1
    split at h
    · cases h
    · rename_i h2
      split at h
      · cases h
      · rename_i h3
        obtain ⟨-, h64, -⟩ := chkW_ok h0
        refine ⟨h0, m.toNat, by omega, by omega, by omega, ?_⟩
        by_cases h7 : m < 7
        · have : ¬ 2 ^ m.toNat < L.length := fun h => h3 ⟨h7, h⟩
          omega
        · have : (2 : Nat) ^ 7 ≤ 2 ^ m.toNat := Nat.pow_le_pow_right (by decide) (by omega)
          omega
set_option maxRecDepth 100000 in
set_option maxHeartbeats 8000000 in
theorem check39_any (cap : Nat) (a : Option Addr) (L : List (Bool × ByteArray)) (m : Int) (hL : L.length ≤ maxLen) (hz : ∀ x ∈ L, x.2.size ≤ 100000) (hm : (Lit.int .i64 m).wf = true) (w : World) (hSl : Sl w a L) :
    Calls Tryz.prog 24 #[.slice a L.length cap, .int .i64 m] w fun e w' => e = .returned (.int .i64 (limE L m)) ∧ Below w.heap.size w w' := by
  have HM := Lib.hid (Merges_any cap a L hL hz w hSl)
  clear hSl hz
  by_cases h0 : ¬ chkW L = 0
  · have hE : limE L m = chkW L := by unfold limE; rw [if_pos h0]
    rw [hE]
    obtain ⟨E, hE⟩ : ∃ E, chkW L = E := ⟨_, rfl⟩
    rw [hE] at HM h0 ⊢
    have hne : (E != 0) = true := by simpa using h0
    clear hE h0
    go_enter Tryz.func24, Tryz.ntmps24
    go_wp2_with fail
    refine HM.out.mono ?_
    rintro e w1 ⟨⟨v, rfl, -, -⟩, hb⟩
    go_wp2
    go_ret
    exact ⟨rfl, hb⟩
  · have h0 := Decidable.not_not.1 h0
    rw [h0] at HM
    obtain ⟨-, h64, -⟩ := chkW_ok h0
    obtain ⟨n, hn⟩ : ∃ n, L.length = n := ⟨_, rfl⟩
    have HE := Lib.hid (show limE L m = if m < 1 ∨ 64 < m then 2 else if m < 7 ∧ 2 ^ m.toNat < n then 15 else 0 from by unfold limE; rw [if_neg (by simp [h0]), hn])
    rw [hn] at HM h64 ⊢
    obtain ⟨E, hEE⟩ : ∃ E, limE L m = E := ⟨_, rfl⟩
    rw [hEE] at HE ⊢
    clear hn h0 hL hEE
    by_cases h1 : m < 1
    · have HV := Lib.hid (show E = 2 from by rw [HE.out, if_pos (.inl h1)])
      go_enter Tryz.func24, Tryz.ntmps24
      go_wp2_with fail
      refine HM.out.mono ?_
      rintro e w1 ⟨⟨v, rfl, -, -⟩, hb⟩
      go_wp2
      go_ret
      exact ⟨by rw [HV.out]; rfl, hb⟩
    by_cases h2 : 64 < m
    · have HV := Lib.hid (show E = 2 from by rw [HE.out, if_pos (.inr h2)])
      have h1B : decide (m < 1) = false := by simp; omega
      go_enter Tryz.func24, Tryz.ntmps24
      go_wp2_with fail
      refine HM.out.mono ?_
      rintro e w1 ⟨⟨v, rfl, -, -⟩, hb⟩
      go_wp2
      go_ret
      exact ⟨by rw [HV.out]; rfl, hb⟩
    have h1B : decide (m < 1) = false := by simp; omega
    have h2B : decide (64 < m) = false := by simp; omega
    by_cases h7 : m < 7
    · obtain ⟨k, rfl, hk1, hk6⟩ : ∃ k : Nat, m = (k : Int) ∧ 1 ≤ k ∧ k ≤ 6 := ⟨m.toNat, by omega, by omega, by omega⟩
      have hE2 := HE.out
      rw [if_neg (by omega), Int.toNat_natCast] at hE2
      have cases6 : k = 1 ∨ k = 2 ∨ k = 3 ∨ k = 4 ∨ k = 5 ∨ k = 6 := by omega
      clear HE h1 h2 h7 h1B h2B hk1 hk6 hm
      rcases cases6 with rfl | rfl | rfl | rfl | rfl | rfl
      · have hE3 : E = if 2 < n then 15 else 0 := by
          rw [hE2]
          by_cases h : 2 < n
          · rw [if_pos ⟨by decide, h⟩, if_pos h]
          · rw [if_neg fun h2 => h h2.2, if_neg h]
        clear hE2
        by_cases hlt : 2 < n
        · rw [if_pos hlt] at hE3
          have HV := Lib.hid hE3
          have hltI : (2 : Int) < (n : Int) := by omega
          clear hE3 hlt
          go_enter Tryz.func24, Tryz.ntmps24
          go_wp2_with fail
          refine HM.out.mono ?_
          rintro e w1 ⟨⟨v, rfl, -, -⟩, hb⟩
          go_wp2
          go_ret
          exact ⟨by rw [HV.out]; rfl, hb⟩
        · rw [if_neg hlt] at hE3
          have HV := Lib.hid hE3
          have hltI : ¬ (2 : Int) < (n : Int) := by omega
          have hltB : decide ((2 : Int) < (n : Int)) = false := by simp; omega
          clear hE3 hlt
          go_enter Tryz.func24, Tryz.ntmps24
          go_wp2_with fail
          refine HM.out.mono ?_
          rintro e w1 ⟨⟨v, rfl, -, -⟩, hb⟩
          go_wp2
          go_ret
          exact ⟨by rw [HV.out]; rfl, hb⟩
      · have hE3 : E = if 4 < n then 15 else 0 := by
          rw [hE2]
          by_cases h : 4 < n
          · rw [if_pos ⟨by decide, h⟩, if_pos h]
          · rw [if_neg fun h2 => h h2.2, if_neg h]
        clear hE2
        by_cases hlt : 4 < n
        · rw [if_pos hlt] at hE3
          have HV := Lib.hid hE3
          have hltI : (4 : Int) < (n : Int) := by omega
          clear hE3 hlt
          go_enter Tryz.func24, Tryz.ntmps24
          go_wp2_with fail
          refine HM.out.mono ?_
          rintro e w1 ⟨⟨v, rfl, -, -⟩, hb⟩
          go_wp2
          go_ret
          exact ⟨by rw [HV.out]; rfl, hb⟩
        · rw [if_neg hlt] at hE3
          have HV := Lib.hid hE3
          have hltI : ¬ (4 : Int) < (n : Int) := by omega
          have hltB : decide ((4 : Int) < (n : Int)) = false := by simp; omega
          clear hE3 hlt
          go_enter Tryz.func24, Tryz.ntmps24
          go_wp2_with fail
          refine HM.out.mono ?_
          rintro e w1 ⟨⟨v, rfl, -, -⟩, hb⟩
          go_wp2
          go_ret
          exact ⟨by rw [HV.out]; rfl, hb⟩
      · have hE3 : E = if 8 < n then 15 else 0 := by
          rw [hE2]
          by_cases h : 8 < n
          · rw [if_pos ⟨by decide, h⟩, if_pos h]
          · rw [if_neg fun h2 => h h2.2, if_neg h]
        clear hE2
        by_cases hlt : 8 < n
        · rw [if_pos hlt] at hE3
          have HV := Lib.hid hE3
          have hltI : (8 : Int) < (n : Int) := by omega
          clear hE3 hlt
          go_enter Tryz.func24, Tryz.ntmps24
          go_wp2_with fail
          refine HM.out.mono ?_
          rintro e w1 ⟨⟨v, rfl, -, -⟩, hb⟩
          go_wp2
          go_ret
          exact ⟨by rw [HV.out]; rfl, hb⟩
        · rw [if_neg hlt] at hE3
          have HV := Lib.hid hE3
          have hltI : ¬ (8 : Int) < (n : Int) := by omega
          have hltB : decide ((8 : Int) < (n : Int)) = false := by simp; omega
          clear hE3 hlt
          go_enter Tryz.func24, Tryz.ntmps24
          go_wp2_with fail
          refine HM.out.mono ?_
          rintro e w1 ⟨⟨v, rfl, -, -⟩, hb⟩
          go_wp2
          go_ret
          exact ⟨by rw [HV.out]; rfl, hb⟩
      · have hE3 : E = if 16 < n then 15 else 0 := by
          rw [hE2]
          by_cases h : 16 < n
          · rw [if_pos ⟨by decide, h⟩, if_pos h]
          · rw [if_neg fun h2 => h h2.2, if_neg h]
        clear hE2
        by_cases hlt : 16 < n
        · rw [if_pos hlt] at hE3
          have HV := Lib.hid hE3
          have hltI : (16 : Int) < (n : Int) := by omega
          clear hE3 hlt
          go_enter Tryz.func24, Tryz.ntmps24
          go_wp2_with fail
          refine HM.out.mono ?_
          rintro e w1 ⟨⟨v, rfl, -, -⟩, hb⟩
          go_wp2
          go_ret
          exact ⟨by rw [HV.out]; rfl, hb⟩
        · rw [if_neg hlt] at hE3
          have HV := Lib.hid hE3
          have hltI : ¬ (16 : Int) < (n : Int) := by omega
          have hltB : decide ((16 : Int) < (n : Int)) = false := by simp; omega
          clear hE3 hlt
          go_enter Tryz.func24, Tryz.ntmps24
          go_wp2_with fail
          refine HM.out.mono ?_
          rintro e w1 ⟨⟨v, rfl, -, -⟩, hb⟩
          go_wp2
          go_ret
          exact ⟨by rw [HV.out]; rfl, hb⟩
      · have hE3 : E = if 32 < n then 15 else 0 := by
          rw [hE2]
          by_cases h : 32 < n
          · rw [if_pos ⟨by decide, h⟩, if_pos h]
          · rw [if_neg fun h2 => h h2.2, if_neg h]
        clear hE2
        by_cases hlt : 32 < n
        · rw [if_pos hlt] at hE3
          have HV := Lib.hid hE3
          have hltI : (32 : Int) < (n : Int) := by omega
          clear hE3 hlt
          go_enter Tryz.func24, Tryz.ntmps24
          go_wp2_with fail
          refine HM.out.mono ?_
          rintro e w1 ⟨⟨v, rfl, -, -⟩, hb⟩
          go_wp2
          go_ret
          exact ⟨by rw [HV.out]; rfl, hb⟩
        · rw [if_neg hlt] at hE3
          have HV := Lib.hid hE3
          have hltI : ¬ (32 : Int) < (n : Int) := by omega
          have hltB : decide ((32 : Int) < (n : Int)) = false := by simp; omega
          clear hE3 hlt
          go_enter Tryz.func24, Tryz.ntmps24
          go_wp2_with fail
          refine HM.out.mono ?_
          rintro e w1 ⟨⟨v, rfl, -, -⟩, hb⟩
          go_wp2
          go_ret
          exact ⟨by rw [HV.out]; rfl, hb⟩
      · have hE3 : E = if 64 < n then 15 else 0 := by
          rw [hE2]
          by_cases h : 64 < n
          · rw [if_pos ⟨by decide, h⟩, if_pos h]
          · rw [if_neg fun h2 => h h2.2, if_neg h]
        clear hE2
        by_cases hlt : 64 < n
        · rw [if_pos hlt] at hE3
          have HV := Lib.hid hE3
          have hltI : (64 : Int) < (n : Int) := by omega
          clear hE3 hlt
          go_enter Tryz.func24, Tryz.ntmps24
          go_wp2_with fail
          refine HM.out.mono ?_
          rintro e w1 ⟨⟨v, rfl, -, -⟩, hb⟩
          go_wp2
          go_ret
          exact ⟨by rw [HV.out]; rfl, hb⟩
        · rw [if_neg hlt] at hE3
          have HV := Lib.hid hE3
          have hltI : ¬ (64 : Int) < (n : Int) := by omega
          have hltB : decide ((64 : Int) < (n : Int)) = false := by simp; omega
          clear hE3 hlt
          go_enter Tryz.func24, Tryz.ntmps24
          go_wp2_with fail
          refine HM.out.mono ?_
          rintro e w1 ⟨⟨v, rfl, -, -⟩, hb⟩
          go_wp2
          go_ret
          exact ⟨by rw [HV.out]; rfl, hb⟩
    · have HV := Lib.hid (show E = 0 from by rw [HE.out, if_neg (by omega), if_neg fun h => h7 h.1])
      have h7B : decide (m < 7) = false := by simp; omega
      go_enter Tryz.func24, Tryz.ntmps24
      go_wp2_with fail
      refine HM.out.mono ?_
      rintro e w1 ⟨⟨v, rfl, -, -⟩, hb⟩
      go_wp2
      go_ret
      exact ⟨by rw [HV.out]; rfl, hb⟩
/-- What Cost answers. -/
def LCs (L : List (Bool × ByteArray)) (m : Int) (w : World) (e : Ending) (w' : World) : Prop :=
  (limE L m ≠ 0 → e = .returned (.tuple #[.agg #[.bool false, .string ⟨#[]⟩], .int .i64 (limE L m)])) ∧ (limE L m = 0 → ∃ Ws, L = VL Ws ∧ e = .returned (.tuple #[.agg #[.bool false, .string (mg (limC Ws m.toNat))], .int .i64 0])) ∧ Below w.heap.size w w'
theorem Sl.some9 {W : World} {a : Option Addr} {L : List (Bool × ByteArray)} (h : Sl W a L) (h1 : 1 ≤ L.length) : ∃ A, a = Option.some A := by
  obtain ⟨A, e, -⟩ := h 0 (L[0]'(by omega)).1 (L[0]'(by omega)).2 (List.getElem?_eq_getElem (by omega))
  exact ⟨A, e⟩
theorem VLlt9 {Ws : List Nat} (h : ∀ x ∈ VL Ws, x.2.size ≤ 8) : ∀ z ∈ Ws, z < 2 ^ 64 := fun z hz =>
  mg_lt (h (false, mg z) (List.mem_map.2 ⟨z, hz, rfl⟩)) (by omega)
theorem limC_is {Ws : List Nat} {k : Nat} (h : Ws.length ≤ 2 ^ k) : tb (owL Ws) Ws.length k 1 0 = some (limC Ws k) := by
  have := tb_some (owL Ws) Ws.length k 1 0 (Nat.zero_le _) (by omega)
  unfold limC
  cases hx : tb (owL Ws) Ws.length k 1 0 with
  | none => exact absurd hx this
  | some x => rfl
set_option maxRecDepth 100000 in
set_option maxHeartbeats 4000000 in
theorem Cost39_any (cap : Nat) (a : Option Addr) (L : List (Bool × ByteArray)) (m : Int) (hc : L.length ≤ cap) (hcm : cap ≤ maxLen) (h12 : L.length ≤ 12 ∨ 64 < L.length) (hz : ∀ x ∈ L, x.2.size ≤ 8) (hm : (Lit.int .i64 m).wf = true) (w : World) (hSl : Sl w a L) :
    Calls Tryz.prog 20 #[.slice a L.length cap, .int .i64 m] w (LCs L m w) := by
  have HCK := Lib.hid (fun W (hb : Below w.heap.size w W) => check39_any cap a L m (Nat.le_trans hc hcm) (fun x hx => Nat.le_trans (hz x hx) (by decide)) hm W (hSl.below hb))
  have hb1 : Below w.heap.size w (w.alloc (.cells #[.bool false, .string ⟨#[]⟩] 29)) := (Below.refl _ _).alloc (Nat.le_refl _) _
  have bR := BC.new w w.heap.size #[.bool false, .string ⟨#[]⟩] 29 rfl
  obtain ⟨p, hp⟩ : ∃ p, w.heap.size = p := ⟨_, rfl⟩
  obtain ⟨X, hX⟩ : ∃ X, w.alloc (.cells #[.bool false, .string ⟨#[]⟩] 29) = X := ⟨_, rfl⟩
  rw [hX] at hb1 bR
  rw [hp] at bR
  have HBX := Lib.hid hb1
  have HBR := Lib.hid bR
  have HPP := Lib.hid hp
  have HC1 := Lib.hid (HCK.out X hb1)
  clear hb1 bR
  by_cases h0 : ¬ limE L m = 0
  · obtain ⟨E, hE⟩ : ∃ E, limE L m = E := ⟨_, rfl⟩
    have HE := Lib.hid hE
    rw [hE] at HC1 h0
    have hne : (E != 0) = true := by simpa using h0
    have HN := Lib.hid h0
    clear h0 hE hSl hz
    go_enter Tryz.func20, Tryz.ntmps20
    go_wp2_with fail
    refine HC1.out.mono ?_
    rintro e w1 ⟨rfl, hb⟩
    have HB := Lib.hid (bstep HBX.out hb)
    have b1 := HBR.out.below hb
    have t0 := b1.at 0 _ rfl
    have t1 := b1.at 1 _ rfl
    have z0 := b1.z 0 (by simp)
    have z1 := b1.z 1 (by simp)
    have bS := b1.set2 0 1 (.bool false) (.string ⟨#[]⟩) (by simp) (by simp)
    have s0 := bS.at 0 _ rfl
    have s1 := bS.at 1 _ rfl
    have HBY := Lib.hid ((HB.out.setCell (p := ⟨p, 0, none⟩) (by have := HPP.out; show w.heap.size ≤ p; omega) (.bool false)).setCell (p := ⟨p, 1, none⟩) (by have := HPP.out; show w.heap.size ≤ p; omega) (.string ⟨#[]⟩))
    clear hb b1 bS
    go_wp2
    refine bodyPost_ret (v := .tuple #[.agg #[.bool false, .string ⟨#[]⟩], .int .i64 E]) (by simp [results, Tryz.results20, go_sem, s0, s1]) rfl ?_
    unfold LCs
    rw [HE.out]
    exact ⟨fun _ => rfl, fun h => absurd h HN.out, HBY.out⟩
  · have h0 := Decidable.not_not.1 h0
    obtain ⟨hck, k, rfl, hk1, hk64, hk2⟩ := limE_ok h0
    obtain ⟨h2, h64, Ws, hWs⟩ := chkW_ok hck
    obtain rfl : L = VL Ws := hWs
    have HL0 := Lib.hid h0
    rw [h0] at HC1
    obtain ⟨A, rfl⟩ := hSl.some9 (by omega)
    rw [VL_len] at hc h2 h64 h12 hk2 HC1 ⊢
    have HNP := Lib.hid (fun W (hb : Below w.heap.size w W) => newPlan_any A cap Ws k (by omega) (by omega) hk64 hc hcm (VLlt9 hz) W (hSl.below hb))
    have HLC := Lib.hid (limC_is (Ws := Ws) hk2)
    obtain ⟨n, hn⟩ : ∃ n, Ws.length = n := ⟨_, rfl⟩
    have HNN := Lib.hid hn
    have HLN := Lib.hid (show n ≤ 12 ∧ 2 ≤ n from by omega)
    rw [hn] at HC1 HNP HLC ⊢
    clear h0 hSl hz hn hc h12 hk2 hck
    go_enter Tryz.func20, Tryz.ntmps20
    go_wp2_with fail
    refine HC1.out.mono ?_
    rintro e w1 ⟨rfl, hb⟩
    have HB := Lib.hid (bstep HBX.out hb)
    have HBR1 := Lib.hid (HBR.out.below hb)
    have HX1 := Lib.hid (HNP.out w1 HB.out)
    clear hb
    go_wp2_with fail
    refine HX1.out.mono ?_
    intro e w2 hq
    obtain ⟨S, T, gs, rfl, hs, hrows, hb2⟩ := hq
    rw [HNN.out] at hs hrows ⊢
    obtain ⟨c0, r0⟩ := hrows 0 (Nat.zero_le _)
    rw [Nat.sub_zero] at r0
    have HAT := Lib.hid (at39_any n k S T (gs 0) 0 1 0 k (owL Ws) w2 HLN.out.1 hk64 (Nat.zero_le _) (by have := HLN.out.2; omega) (Nat.zero_le _) c0 r0)
    rw [HLC.out] at HAT
    have HBR2 := Lib.hid (HBR1.out.below hb2)
    have HB2 := Lib.hid (bstep HB.out hb2)
    clear hs hrows c0 r0 hb2
    go_wp2_with fail
    refine HAT.out.mono ?_
    rintro e w3 ⟨rfl, hb3⟩
    unfold oV oB oS
    obtain ⟨cc, hcc⟩ : ∃ c, limC Ws k = c := ⟨_, rfl⟩
    have HCC := Lib.hid hcc
    rw [hcc]
    have b1 := HBR2.out.below hb3
    have HB3 := Lib.hid (bstep HB2.out hb3)
    have t0 := b1.at 0 _ rfl
    have t1 := b1.at 1 _ rfl
    have z0 := b1.z 0 (by simp)
    have z1 := b1.z 1 (by simp)
    have bS := b1.set2 0 1 (.bool false) (.string (mg cc)) (by simp) (by simp)
    have s0 := bS.at 0 _ rfl
    have s1 := bS.at 1 _ rfl
    have HBY := Lib.hid ((HB3.out.setCell (p := ⟨p, 0, none⟩) (by have := HPP.out; show w.heap.size ≤ p; omega) (.bool false)).setCell (p := ⟨p, 1, none⟩) (by have := HPP.out; show w.heap.size ≤ p; omega) (.string (mg cc)))
    clear hb3 b1 bS hcc
    go_wp2
    refine bodyPost_ret (v := .tuple #[.agg #[.bool false, .string (mg cc)], .int .i64 0]) (by simp [results, Tryz.results20, go_sem, s0, s1]) rfl ?_
    unfold LCs
    exact ⟨fun h => absurd HL0.out h, fun _ => ⟨Ws, rfl, by rw [Int.toNat_natCast, HCC.out]⟩, HBY.out⟩
end Go.Proofs.Gv

namespace Go.Proofs.Gv

theorem putA_len : ∀ (A B out : List Nat), (putA out A B).length = out.length
  | [], _, out => rfl
  | a :: A, [], out => rfl
  | a :: A, b :: B, out => by
    show (putA (out.set a b) A B).length = _
    rw [putA_len A B, List.length_set]
theorem putA_app : ∀ (A B A' B' out : List Nat), A.length = B.length → putA out (A ++ A') (B ++ B') = putA (putA out A B) A' B'
  | [], [], A', B', out, _ => rfl
  | [], b :: B, A', B', out, h => by cases h
  | a :: A, [], A', B', out, h => by cases h
  | a :: A, b :: B, A', B', out, h => putA_app A B A' B' (out.set a b) (by simpa using h)
theorem putA_nil (out B : List Nat) : putA out [] B = out := by cases B <;> rfl
/-- The state behind x weights of a depth. -/
def putX (out : List Nat) (A : List Nat) (j x : Nat) : List Nat := putA out (A.take x) (List.replicate x j)
theorem putX_zero (out A : List Nat) (j : Nat) : putX out A j 0 = out := by unfold putX; rw [List.take_zero, putA_nil]
theorem putX_succ {out A : List Nat} {j x o : Nat} (h : A[x]? = some o) : putX out A j (x + 1) = (putX out A j x).set o j := by
  have hl := (List.getElem?_eq_some_iff.1 h).1
  unfold putX
  rw [List.take_add_one, h, List.replicate_succ', putA_app _ _ _ _ _ (by rw [List.length_take, List.length_replicate]; omega)]
  rfl
theorem putX_len (out A : List Nat) (j x : Nat) : (putX out A j x).length = out.length := putA_len _ _ _
/-- A depth is done. -/
theorem put_step {out A G : List Nat} {j p : Nat} (hp : p ≤ A.length) : putA out A (List.replicate p j ++ G) = putA (putX out A j p) (A.drop p) G := by
  have h := putA_app (A.take p) (List.replicate p j) (A.drop p) G out (by rw [List.length_take, List.length_replicate]; omega)
  rw [List.take_append_drop] at h
  exact h
theorem lenG_end (O : List Nat) (n : Nat) : ∀ r j k, lenG O n r j k n = []
  | 0, j, k => by unfold lenG; rw [pnum_zero, Nat.sub_self, Nat.min_zero]; rfl
  | r + 1, j, k => by unfold lenG; rw [if_neg (Nat.lt_irrefl n)]
theorem lenG_succ (O : List Nat) {n r j k i : Nat} (h : i < n) : lenG O n (r + 1) j k i = List.replicate (pnum O n (r + 1) k i) j ++ lenG O n r (j + 1) (min (2 * (k - pnum O n (r + 1) k i)) n) (i + pnum O n (r + 1) k i) := by
  show (if i < n then _ else _) = _
  rw [if_pos h]
theorem dnP_succ (f : Nat → Option Nat) (v : Option Nat) (p : Nat) : dnP f v (p + 1) = if f (p + 1) = v then p + 1 else dnP f v p := rfl
theorem dnP_hit {f : Nat → Option Nat} {v : Option Nat} {p : Nat} (h : f p = v) : dnP f v p = p := by
  cases p with
  | zero => rfl
  | succ p => rw [dnP_succ, if_pos h]
end Go.Proofs.Gv
