/- grooveref39.check; grooveref39.Cost: printed by mk_mle.py. -/
import Derived.Test.YtghjjfknlnegpaaGreatMta
import Derived.Test.YtghjjfknlnegpaaGreatLim3P
import Derived.Test.YtghjjfknlnegpaaGreatHlscP
set_option linter.unusedSimpArgs false
set_option linter.unusedVariables false
namespace Go.Proofs.Gv
open Go Go.RowKit Go.Maps

theorem rlnE_two (L : List (Bool × ByteArray)) : rlnE 2 L = chkW L := by unfold rlnE; rw [if_neg (by decide)]
set_option maxRecDepth 100000 in
set_option maxHeartbeats 8000000 in
theorem rcheck39_any (cap : Nat) (a : Option Addr) (L : List (Bool × ByteArray)) (m : Int) (hL : L.length ≤ maxLen) (h12 : L.length ≤ 12 ∨ 64 < L.length) (hz : ∀ x ∈ L, x.2.size ≤ 8) (hm : (Lit.int .i64 m).wf = true) (w : World) (hSl : Sl w a L) :
    Calls Tryz.prog 27 #[.slice a L.length cap, .int .i64 m] w fun e w' => e = .returned (.int .i64 (limE L m)) ∧ Below w.heap.size w w' := by
  have HM := Lib.hid ((rLen_any cap a L 2 (by decide) hL h12 hz w hSl).mono (fun e w' h => (show ∃ v, e = .returned (.tuple #[v, .int .i64 (chkW L)]) ∧ Below w.heap.size w w' from by
    obtain ⟨g1, g2, g3⟩ := h
    rw [rlnE_two] at g1 g2
    by_cases h0 : chkW L = 0
    · obtain ⟨Ws, g, c, -, h4, -⟩ := g2 h0
      exact ⟨_, by rw [h0]; exact h4, g3⟩
    · obtain ⟨b, h4⟩ := g1 h0
      exact ⟨_, h4, g3⟩)))
  clear hSl hz h12
  by_cases h0 : ¬ chkW L = 0
  · have hE : limE L m = chkW L := by unfold limE; rw [if_pos h0]
    rw [hE]
    obtain ⟨E, hE⟩ : ∃ E, chkW L = E := ⟨_, rfl⟩
    rw [hE] at HM h0 ⊢
    have hne : (E != 0) = true := by simpa using h0
    clear hE h0
    go_enter Tryz.func27, Tryz.ntmps27
    go_wp2_with fail
    refine HM.out.mono ?_
    rintro e w1 ⟨v, rfl, hb⟩
    go_wp2
    go_ret
    exact ⟨rfl, hb⟩
  · have h0 := Decidable.not_not.1 h0
    rw [h0] at HM
    obtain ⟨-, h64, -⟩ := chkW_ok h0
    obtain ⟨n, hn⟩ : ∃ n, L.length = n := ⟨_, rfl⟩
    have HE := Lib.hid (show limE L m = if m < 1 ∨ 64 < m then 2 else if m < 7 ∧ 2 ^ m.toNat < n then 15 else 0 from by unfold limE; rw [if_neg (by simp [h0]), hn])
    rw [hn] at HM h64 ⊢
    obtain ⟨E, hEE⟩ : ∃ E, limE L m = E := ⟨_, rfl⟩
    rw [hEE] at HE ⊢
    clear hn h0 hL hEE
    by_cases h1 : m < 1
    · have HV := Lib.hid (show E = 2 from by rw [HE.out, if_pos (.inl h1)])
      go_enter Tryz.func27, Tryz.ntmps27
      go_wp2_with fail
      refine HM.out.mono ?_
      rintro e w1 ⟨v, rfl, hb⟩
      go_wp2
      go_ret
      exact ⟨by rw [HV.out]; rfl, hb⟩
    by_cases h2 : 64 < m
    · have HV := Lib.hid (show E = 2 from by rw [HE.out, if_pos (.inr h2)])
      have h1B : decide (m < 1) = false := by simp; omega
      go_enter Tryz.func27, Tryz.ntmps27
      go_wp2_with fail
      refine HM.out.mono ?_
      rintro e w1 ⟨v, rfl, hb⟩
      go_wp2
      go_ret
      exact ⟨by rw [HV.out]; rfl, hb⟩
    have h1B : decide (m < 1) = false := by simp; omega
    have h2B : decide (64 < m) = false := by simp; omega
    by_cases h7 : m < 7
    · obtain ⟨k, rfl, hk1, hk6⟩ : ∃ k : Nat, m = (k : Int) ∧ 1 ≤ k ∧ k ≤ 6 := ⟨m.toNat, by omega, by omega, by omega⟩
      have hE2 := HE.out
      rw [if_neg (by omega), Int.toNat_natCast] at hE2
      have cases6 : k = 1 ∨ k = 2 ∨ k = 3 ∨ k = 4 ∨ k = 5 ∨ k = 6 := by omega
      clear HE h1 h2 h7 h1B h2B hk1 hk6 hm
      rcases cases6 with rfl | rfl | rfl | rfl | rfl | rfl
      · have hE3 : E = if 2 < n then 15 else 0 := by
          rw [hE2]
          by_cases h : 2 < n
          · rw [if_pos ⟨by decide, h⟩, if_pos h]
          · rw [if_neg fun h2 => h h2.2, if_neg h]
        clear hE2
        by_cases hlt : 2 < n
        · rw [if_pos hlt] at hE3
          have HV := Lib.hid hE3
          have hltI : (2 : Int) < (n : Int) := by omega
          clear hE3 hlt
          go_enter Tryz.func27, Tryz.ntmps27
          go_wp2_with fail
          refine HM.out.mono ?_
          rintro e w1 ⟨v, rfl, hb⟩
          go_wp2
          go_ret
          exact ⟨by rw [HV.out]; rfl, hb⟩
        · rw [if_neg hlt] at hE3
          have HV := Lib.hid hE3
          have hltI : ¬ (2 : Int) < (n : Int) := by omega
          have hltB : decide ((2 : Int) < (n : Int)) = false := by simp; omega
          clear hE3 hlt
          go_enter Tryz.func27, Tryz.ntmps27
          go_wp2_with fail
          refine HM.out.mono ?_
          rintro e w1 ⟨v, rfl, hb⟩
          go_wp2
          go_ret
          exact ⟨by rw [HV.out]; rfl, hb⟩
      · have hE3 : E = if 4 < n then 15 else 0 := by
          rw [hE2]
          by_cases h : 4 < n
          · rw [if_pos ⟨by decide, h⟩, if_pos h]
          · rw [if_neg fun h2 => h h2.2, if_neg h]
        clear hE2
        by_cases hlt : 4 < n
        · rw [if_pos hlt] at hE3
          have HV := Lib.hid hE3
          have hltI : (4 : Int) < (n : Int) := by omega
          clear hE3 hlt
          go_enter Tryz.func27, Tryz.ntmps27
          go_wp2_with fail
          refine HM.out.mono ?_
          rintro e w1 ⟨v, rfl, hb⟩
          go_wp2
          go_ret
          exact ⟨by rw [HV.out]; rfl, hb⟩
        · rw [if_neg hlt] at hE3
          have HV := Lib.hid hE3
          have hltI : ¬ (4 : Int) < (n : Int) := by omega
          have hltB : decide ((4 : Int) < (n : Int)) = false := by simp; omega
          clear hE3 hlt
          go_enter Tryz.func27, Tryz.ntmps27
          go_wp2_with fail
          refine HM.out.mono ?_
          rintro e w1 ⟨v, rfl, hb⟩
          go_wp2
          go_ret
          exact ⟨by rw [HV.out]; rfl, hb⟩
      · have hE3 : E = if 8 < n then 15 else 0 := by
          rw [hE2]
          by_cases h : 8 < n
          · rw [if_pos ⟨by decide, h⟩, if_pos h]
          · rw [if_neg fun h2 => h h2.2, if_neg h]
        clear hE2
        by_cases hlt : 8 < n
        · rw [if_pos hlt] at hE3
          have HV := Lib.hid hE3
          have hltI : (8 : Int) < (n : Int) := by omega
          clear hE3 hlt
          go_enter Tryz.func27, Tryz.ntmps27
          go_wp2_with fail
          refine HM.out.mono ?_
          rintro e w1 ⟨v, rfl, hb⟩
          go_wp2
          go_ret
          exact ⟨by rw [HV.out]; rfl, hb⟩
        · rw [if_neg hlt] at hE3
          have HV := Lib.hid hE3
          have hltI : ¬ (8 : Int) < (n : Int) := by omega
          have hltB : decide ((8 : Int) < (n : Int)) = false := by simp; omega
          clear hE3 hlt
          go_enter Tryz.func27, Tryz.ntmps27
          go_wp2_with fail
          refine HM.out.mono ?_
          rintro e w1 ⟨v, rfl, hb⟩
          go_wp2
          go_ret
          exact ⟨by rw [HV.out]; rfl, hb⟩
      · have hE3 : E = if 16 < n then 15 else 0 := by
          rw [hE2]
          by_cases h : 16 < n
          · rw [if_pos ⟨by decide, h⟩, if_pos h]
          · rw [if_neg fun h2 => h h2.2, if_neg h]
        clear hE2
        by_cases hlt : 16 < n
        · rw [if_pos hlt] at hE3
          have HV := Lib.hid hE3
          have hltI : (16 : Int) < (n : Int) := by omega
          clear hE3 hlt
          go_enter Tryz.func27, Tryz.ntmps27
          go_wp2_with fail
          refine HM.out.mono ?_
          rintro e w1 ⟨v, rfl, hb⟩
          go_wp2
          go_ret
          exact ⟨by rw [HV.out]; rfl, hb⟩
        · rw [if_neg hlt] at hE3
          have HV := Lib.hid hE3
          have hltI : ¬ (16 : Int) < (n : Int) := by omega
          have hltB : decide ((16 : Int) < (n : Int)) = false := by simp; omega
          clear hE3 hlt
          go_enter Tryz.func27, Tryz.ntmps27
          go_wp2_with fail
          refine HM.out.mono ?_
          rintro e w1 ⟨v, rfl, hb⟩
          go_wp2
          go_ret
          exact ⟨by rw [HV.out]; rfl, hb⟩
      · have hE3 : E = if 32 < n then 15 else 0 := by
          rw [hE2]
          by_cases h : 32 < n
          · rw [if_pos ⟨by decide, h⟩, if_pos h]
          · rw [if_neg fun h2 => h h2.2, if_neg h]
        clear hE2
        by_cases hlt : 32 < n
        · rw [if_pos hlt] at hE3
          have HV := Lib.hid hE3
          have hltI : (32 : Int) < (n : Int) := by omega
          clear hE3 hlt
          go_enter Tryz.func27, Tryz.ntmps27
          go_wp2_with fail
          refine HM.out.mono ?_
          rintro e w1 ⟨v, rfl, hb⟩
          go_wp2
          go_ret
          exact ⟨by rw [HV.out]; rfl, hb⟩
        · rw [if_neg hlt] at hE3
          have HV := Lib.hid hE3
          have hltI : ¬ (32 : Int) < (n : Int) := by omega
          have hltB : decide ((32 : Int) < (n : Int)) = false := by simp; omega
          clear hE3 hlt
          go_enter Tryz.func27, Tryz.ntmps27
          go_wp2_with fail
          refine HM.out.mono ?_
          rintro e w1 ⟨v, rfl, hb⟩
          go_wp2
          go_ret
          exact ⟨by rw [HV.out]; rfl, hb⟩
      · have hE3 : E = if 64 < n then 15 else 0 := by
          rw [hE2]
          by_cases h : 64 < n
          · rw [if_pos ⟨by decide, h⟩, if_pos h]
          · rw [if_neg fun h2 => h h2.2, if_neg h]
        clear hE2
        by_cases hlt : 64 < n
        · rw [if_pos hlt] at hE3
          have HV := Lib.hid hE3
          have hltI : (64 : Int) < (n : Int) := by omega
          clear hE3 hlt
          go_enter Tryz.func27, Tryz.ntmps27
          go_wp2_with fail
          refine HM.out.mono ?_
          rintro e w1 ⟨v, rfl, hb⟩
          go_wp2
          go_ret
          exact ⟨by rw [HV.out]; rfl, hb⟩
        · rw [if_neg hlt] at hE3
          have HV := Lib.hid hE3
          have hltI : ¬ (64 : Int) < (n : Int) := by omega
          have hltB : decide ((64 : Int) < (n : Int)) = false := by simp; omega
          clear hE3 hlt
          go_enter Tryz.func27, Tryz.ntmps27
          go_wp2_with fail
          refine HM.out.mono ?_
          rintro e w1 ⟨v, rfl, hb⟩
          go_wp2
          go_ret
          exact ⟨by rw [HV.out]; rfl, hb⟩
    · have HV := Lib.hid (show E = 0 from by rw [HE.out, if_neg (by omega), if_neg fun h => h7 h.1])
      have h7B : decide (m < 7) = false := by simp; omega
      go_enter Tryz.func27, Tryz.ntmps27
      go_wp2_with fail
      refine HM.out.mono ?_
      rintro e w1 ⟨v, rfl, hb⟩
      go_wp2
      go_ret
      exact ⟨by rw [HV.out]; rfl, hb⟩
end Go.Proofs.Gv

namespace Go.Proofs.Gv
open Go Go.RowKit Go.Maps

/-- A row of rows at any address. -/
def RwO (W : World) (v : Value) (M : List (List (Bool × ByteArray))) : Prop := ∃ (a : Option Addr) (c : Nat), v = .slice a M.length c ∧
  ∀ (i : Nat) (row : List (Bool × ByteArray)), M[i]? = some row → ∃ (G : Addr) (Ai : Option Addr) (ci : Nat), a = some G ∧ W.cell? (G.add i) = some (.slice Ai row.length ci) ∧ Sl W Ai row
theorem RwO.below {W W' : World} {v : Value} {M : List (List (Bool × ByteArray))} (h : RwO W v M) (hb : Below W.heap.size W W') : RwO W' v M := by
  obtain ⟨a, c, rfl, h3⟩ := h
  refine ⟨a, c, rfl, fun i row hi => ?_⟩
  obtain ⟨G, Ai, ci, rfl, c0, h6⟩ := h3 i row hi
  exact ⟨G, Ai, ci, rfl, (hb.cell (World.block_lt_of_cell? _ _ c0)).trans c0, h6.below hb⟩
theorem RwS.toO {W : World} {v : Value} {M : List (List (Bool × ByteArray))} (h : RwS W v M) : RwO W v M := by
  obtain ⟨G, c, rfl, -, -, h3⟩ := h
  refine ⟨some G, c, rfl, fun i row hi => ?_⟩
  obtain ⟨Ai, ci, c0, -, -, h6⟩ := h3 i row hi
  exact ⟨G, some Ai, ci, rfl, c0, h6⟩
theorem RwO.nil (W : World) : RwO W (.slice none 0 0) [] := ⟨none, 0, rfl, fun i row hi => by simp at hi⟩
/-- A table, or none. -/
def TbV (L : List (Bool × ByteArray)) (m : Int) (v : Value) (W : World) : Prop :=
  (limE L m ≠ 0 ∧ v = .slice none 0 0) ∨ (limE L m = 0 ∧ ∃ Ws T, L = VL Ws ∧ v = .slice (some ⟨T, 0, none⟩) (m.toNat + 1) (m.toNat + 1) ∧ RwS W v (tabX Ws m.toNat))
theorem TbV.below {L : List (Bool × ByteArray)} {m : Int} {v : Value} {W W' : World} (h : TbV L m v W) (hb : Below W.heap.size W W') : TbV L m v W' := by
  rcases h with h | ⟨h0, Ws, T, h1, h2, h3⟩
  · exact .inl h
  · exact .inr ⟨h0, Ws, T, h1, h2, h3.below hb⟩
/-- What Table answers. -/
def LTb (L : List (Bool × ByteArray)) (m : Int) (w : World) (e : Ending) (w' : World) : Prop :=
  ∃ v, e = .returned (.tuple #[v, .int .i64 (limE L m)]) ∧ TbV L m v w' ∧ Below w.heap.size w w'
set_option maxRecDepth 100000 in
set_option maxHeartbeats 1600000 in
theorem eqFnO_any (u v : Value) (M N : List (List (Bool × ByteArray))) (hM : M.length ≤ 1000) (hr : ∀ r ∈ M, r.length ≤ 1000) (w : World) (hu : RwS w u M) (hv : RwO w v N) :
    Calls Tryz.prog 29 #[u, v, .func (.func 30) #[] #[]] w fun e w' => e = .returned (.bool (decide (M = N))) ∧ Below w.heap.size w w' := by
  obtain ⟨A, c, rfl, -, -, hat⟩ := hu
  obtain ⟨b, d, rfl, hbt⟩ := hv
  have HA := Lib.hid hat
  have HB := Lib.hid hbt
  have HR := Lib.hid hr
  clear hat hbt hr
  by_cases hl : M.length = N.length
  · have hlB : ((M.length : Int) != N.length) = false := by simp [hl]
    go_enter Tryz.func29, Tryz.ntmps29
    rw [hl]
    go_wp2
    go_loopg [17] (N.length + 1) (fun gg v13 wr => ∃ i : Nat, v13 = .int .i64 (i : Int) ∧ i ≤ N.length ∧ N.length - i < gg ∧ M.take i = N.take i ∧ Below w.heap.size w wr)
    case atStart => exact ⟨0, rfl, Nat.zero_le _, by omega, rfl, Below.refl _ _⟩
    case round =>
      obtain ⟨i, rfl, hi, hig, he, hb⟩ := hrel
      have HG := Lib.hid hig
      have HE := Lib.hid he
      have HBW := Lib.hid hb
      clear hig he hb
      by_cases hlt : i < N.length
      · have hltI : (i : Int) < N.length := by omega
        obtain ⟨x, hx⟩ : ∃ x, M[i]? = some x := ⟨M[i]'(by omega), List.getElem?_eq_getElem _⟩
        obtain ⟨y, hy⟩ : ∃ y, N[i]? = some y := ⟨N[i], List.getElem?_eq_getElem hlt⟩
        obtain ⟨A1, c1, f1, -, -, hs1⟩ := HA.out i x hx
        obtain ⟨B, B1, d1, rfl, f2, hs2⟩ := HB.out i y hy
        have g1 := (HBW.out.cell (World.block_lt_of_cell? _ _ f1)).trans f1
        have g2 := (HBW.out.cell (World.block_lt_of_cell? _ _ f2)).trans f2
        have HC := Lib.hid (fun W (h : Below w.heap.size w W) => eqIs_any (some A1) B1 c1 d1 x y (HR.out x (List.mem_of_getElem? hx)) W (hs1.below h) (hs2.below h))
        have HX := Lib.hid (show M.take (i + 1) = M.take i ++ [x] ∧ N.take (i + 1) = N.take i ++ [y] from ⟨by rw [List.take_add_one, hx]; rfl, by rw [List.take_add_one, hy]; rfl⟩)
        have HXY := Lib.hid (And.intro hx hy)
        clear hx hy f1 f2 hs1 hs2
        by_cases hxy : x = y
        · have HXE := Lib.hid hxy
          have hD : decide (x = y) = true := decide_eq_true hxy
          rw [hD] at HC
          clear hxy hD
          go_wp2_with fail
          refine (HC.out wr HBW.out).mono ?_
          rintro e w1 ⟨rfl, hb1⟩
          have HB3 := Lib.hid (bstep HBW.out hb1)
          clear hb1
          go_wp2
          go_roundg (N.length - i)
          case rel => exact ⟨i + 1, by go_num, by omega, by omega, by rw [HX.out.1, HX.out.2, HE.out, HXE.out], HB3.out⟩
          case measure => have := HG.out; omega
        · have hD : decide (x = y) = false := decide_eq_false hxy
          rw [hD] at HC
          have HF := Lib.hid (show decide (M = N) = false from decide_eq_false fun e => by
            have := HXY.out
            rw [e, this.2] at this
            exact hxy (Option.some.inj this.1).symm)
          clear hxy hD
          go_wp2_with fail
          refine (HC.out wr HBW.out).mono ?_
          rintro e w1 ⟨rfl, hb1⟩
          have HB3 := Lib.hid (bstep HBW.out hb1)
          clear hb1
          go_wp2
          go_ret
          exact ⟨by rw [HF.out]; rfl, HB3.out⟩
      · obtain rfl : i = N.length := by omega
        have hB : decide ((N.length : Int) < N.length) = false := by simp
        have HF := Lib.hid (show decide (M = N) = true from decide_eq_true (by
          have := HE.out
          rwa [List.take_length, ← hl, List.take_length] at this))
        go_wp2
        go_ret
        exact ⟨by rw [HF.out]; rfl, HBW.out⟩
  · have hlB : ((M.length : Int) != N.length) = true := by simp; omega
    have hlN : ¬ (M.length : Int) = N.length := by omega
    have HF := Lib.hid (show decide (M = N) = false from decide_eq_false fun e => hl (by rw [e]))
    go_enter Tryz.func29, Tryz.ntmps29
    go_wp2
    go_ret
    exact ⟨by rw [HF.out]; rfl, Below.refl _ _⟩
set_option maxRecDepth 100000 in
set_option maxHeartbeats 4000000 in
theorem Table39_any (cap : Nat) (a : Option Addr) (L : List (Bool × ByteArray)) (m : Int) (hc : L.length ≤ cap) (hcm : cap ≤ maxLen) (h12 : L.length ≤ 12 ∨ 64 < L.length) (hz : ∀ x ∈ L, x.2.size ≤ 8) (hm : (Lit.int .i64 m).wf = true) (w : World) (hSl : Sl w a L) :
    Calls Tryz.prog 10 #[.slice a L.length cap, .int .i64 m] w (LTb L m w) := by
  have HCK := Lib.hid (check39_any cap a L m (Nat.le_trans hc hcm) (fun x hx => Nat.le_trans (hz x hx) (by decide)) hm w hSl)
  by_cases h0 : ¬ limE L m = 0
  · obtain ⟨E, hE⟩ : ∃ E, limE L m = E := ⟨_, rfl⟩
    have HE := Lib.hid hE
    rw [hE] at HCK h0
    have hne : (E != 0) = true := by simpa using h0
    have HN := Lib.hid h0
    clear h0 hE hSl hz
    go_enter Tryz.func10, Tryz.ntmps10
    go_wp2_with fail
    refine HCK.out.mono ?_
    rintro e w1 ⟨rfl, hb⟩
    go_wp2
    refine bodyPost_ret (v := .tuple #[.slice none 0 0, .int .i64 E]) (by simp [results, Tryz.results10, go_sem]) rfl ?_
    exact ⟨_, by rw [HE.out], .inl ⟨by rw [HE.out]; exact HN.out, rfl⟩, hb⟩
  · have h0 := Decidable.not_not.1 h0
    obtain ⟨hck, k, rfl, hk1, hk64, hk2⟩ := limE_ok h0
    obtain ⟨h2, h64, Ws, hWs⟩ := chkW_ok hck
    obtain rfl : L = VL Ws := hWs
    have HL0 := Lib.hid h0
    rw [h0] at HCK
    obtain ⟨A, rfl⟩ := hSl.some9 (by omega)
    rw [VL_len] at hc h2 h64 h12 hk2 HCK ⊢
    have HNP := Lib.hid (fun W (hb : Below w.heap.size w W) => newPlan_any A cap Ws k (by omega) (by omega) hk64 hc hcm (VLlt9 hz) W (hSl.below hb))
    have HTR := Lib.hid (fun w' T gs h => tabX_rws (Ws := Ws) (m := k) (w' := w') (T := T) (gs := gs) (by omega) hk64 h)
    have HLG := Lib.hid (large39_any Ws.length k (by omega) hk64)
    unfold NpQ plV at HNP
    obtain ⟨n, hn⟩ : ∃ n, Ws.length = n := ⟨_, rfl⟩
    rw [hn] at HCK HNP HTR HLG ⊢
    obtain ⟨k1, hk1'⟩ : ∃ x, k + 1 = x := ⟨_, rfl⟩
    have HK1 := Lib.hid hk1'
    obtain ⟨n1, hn1⟩ : ∃ x, n + 1 = x := ⟨_, rfl⟩
    rw [hk1'] at HNP HTR
    clear h0 hSl hz hn hc h12 hk2 hck hk1' hn1
    go_enter Tryz.func10, Tryz.ntmps10
    go_wp2_with fail
    refine HCK.out.mono ?_
    rintro e w1 ⟨rfl, hb⟩
    have HB := Lib.hid hb
    clear hb
    go_wp2_with fail
    refine (HLG.out _).mono ?_
    rintro e w2 ⟨rfl, ew⟩
    obtain rfl := ew
    go_wp2_with fail
    refine (HNP.out _ HB.out).mono ?_
    rintro e w3 ⟨S, T, gs, rfl, -, hr, hb3⟩
    have HF := Lib.hid (And.intro (HTR.out _ _ _ hr) (bstep HB.out hb3))
    clear hr hb3
    go_wp2
    refine bodyPost_ret (v := .tuple #[.slice (some ⟨T, 0, none⟩) k1 k1, .int .i64 0]) (by simp [results, Tryz.results10, go_sem]) rfl ?_
    refine ⟨_, by rw [HL0.out], .inr ⟨HL0.out, Ws, T, rfl, ?_, ?_⟩, HF.out.2⟩
    · rw [Int.toNat_natCast, HK1.out]
    · rw [Int.toNat_natCast]; exact HF.out.1
set_option maxRecDepth 100000 in
set_option maxHeartbeats 4000000 in
theorem rTable39_any (cap : Nat) (a : Option Addr) (L : List (Bool × ByteArray)) (m : Int) (hc : L.length ≤ cap) (hcm : cap ≤ maxLen) (h12 : L.length ≤ 12 ∨ 64 < L.length) (hz : ∀ x ∈ L, x.2.size ≤ 8) (hm : (Lit.int .i64 m).wf = true) (w : World) (hSl : Sl w a L) :
    Calls Tryz.prog 11 #[.slice a L.length cap, .int .i64 m] w (LTb L m w) := by
  have HCK := Lib.hid (rcheck39_any cap a L m (Nat.le_trans hc hcm) h12 hz hm w hSl)
  by_cases h0 : ¬ limE L m = 0
  · obtain ⟨E, hE⟩ : ∃ E, limE L m = E := ⟨_, rfl⟩
    have HE := Lib.hid hE
    rw [hE] at HCK h0
    have hne : (E != 0) = true := by simpa using h0
    have HN := Lib.hid h0
    clear h0 hE hSl hz
    go_enter Tryz.func11, Tryz.ntmps11
    go_wp2_with fail
    refine HCK.out.mono ?_
    rintro e w1 ⟨rfl, hb⟩
    go_wp2
    refine bodyPost_ret (v := .tuple #[.slice none 0 0, .int .i64 E]) (by simp [results, Tryz.results11, go_sem]) rfl ?_
    exact ⟨_, by rw [HE.out], .inl ⟨by rw [HE.out]; exact HN.out, rfl⟩, hb⟩
  · have h0 := Decidable.not_not.1 h0
    obtain ⟨hck, k, rfl, hk1, hk64, hk2⟩ := limE_ok h0
    obtain ⟨h2, h64, Ws, hWs⟩ := chkW_ok hck
    obtain rfl : L = VL Ws := hWs
    have HL0 := Lib.hid h0
    rw [h0] at HCK
    obtain ⟨A, rfl⟩ := hSl.some9 (by omega)
    rw [VL_len] at hc h2 h64 h12 hk2 HCK ⊢
    have HNP := Lib.hid (fun W (hb : Below w.heap.size w W) => rtable_any A cap Ws k (by omega) (by omega) hk64 (VLlt9 hz) W (hSl.below hb))
    have HTR := Lib.hid (fun w' T gs h => tabX_rws (Ws := Ws) (m := k) (w' := w') (T := T) (gs := gs) (by omega) hk64 h)
    unfold RtQ at HNP
    obtain ⟨n, hn⟩ : ∃ n, Ws.length = n := ⟨_, rfl⟩
    rw [hn] at HCK HNP HTR ⊢
    have hn12 : n ≤ 12 := by omega
    obtain ⟨k1, hk1'⟩ : ∃ x, k + 1 = x := ⟨_, rfl⟩
    have HK1 := Lib.hid hk1'
    have hkI : (k : Int) + 1 = (k1 : Int) := by omega
    obtain ⟨n1, hn1⟩ : ∃ x, n + 1 = x := ⟨_, rfl⟩
    have hnI : (n : Int) + 1 = (n1 : Int) := by omega
    obtain ⟨p, hp⟩ : ∃ x, k1 * n1 = x := ⟨_, rfl⟩
    obtain ⟨r, hr⟩ : ∃ x, p * n1 = x := ⟨_, rfl⟩
    have h1 : p ≤ 65 * 13 := by rw [← hp]; exact Nat.mul_le_mul (by omega) (by omega)
    have h2 : r ≤ 65 * 13 * 13 := by rw [← hr]; exact Nat.mul_le_mul h1 (by omega)
    have hpI : (k1 : Int) * (n1 : Int) = (p : Int) := by rw [← hp]; simp
    have hrI : (p : Int) * (n1 : Int) = (r : Int) := by rw [← hr]; simp
    have hn2 : n1 ≤ 13 := by omega
    have hk3 : k1 ≤ 65 := by omega
    have hrB : decide ((65536 : Int) < (r : Int)) = false := by simp; omega
    rw [hk1'] at HNP HTR
    clear h0 hSl hz hn hc h12 hk2 hck hk1' hn1 hp hr
    go_enter Tryz.func11, Tryz.ntmps11
    go_wp2_with fail
    refine HCK.out.mono ?_
    rintro e w1 ⟨rfl, hb⟩
    have HB := Lib.hid hb
    clear hb
    go_wp2_with fail
    refine (HNP.out _ HB.out).mono ?_
    rintro e w3 ⟨T, gs, rfl, hr, hb3⟩
    have HF := Lib.hid (And.intro (HTR.out _ _ _ hr) (bstep HB.out hb3))
    clear hr hb3
    go_wp2
    refine bodyPost_ret (v := .tuple #[.slice (some ⟨T, 0, none⟩) k1 k1, .int .i64 0]) (by simp [results, Tryz.results11, go_sem]) rfl ?_
    refine ⟨_, by rw [HL0.out], .inr ⟨HL0.out, Ws, T, rfl, ?_, ?_⟩, HF.out.2⟩
    · rw [Int.toNat_natCast, HK1.out]
    · rw [Int.toNat_natCast]; exact HF.out.1
set_option maxRecDepth 100000 in
set_option maxHeartbeats 4000000 in
theorem rsameT_any (u v : Value) (M N : List (List (Bool × ByteArray))) (hM : M.length ≤ 1000) (hr : ∀ r ∈ M, r.length ≤ 1000) (w : World) (hu : RwO w u M) (hv : RwO w v N) :
    Calls Tryz.prog 12 #[u, v] w fun e w' => e = .returned (.bool (decide (M = N))) ∧ Below w.heap.size w w' := by
  obtain ⟨a, c, rfl, hat⟩ := hu
  obtain ⟨b, d, rfl, hbt⟩ := hv
  have HA := Lib.hid hat
  have HB := Lib.hid hbt
  have HR := Lib.hid hr
  clear hat hbt hr
  by_cases hl : M.length = N.length
  case neg =>
    have hlB : ((M.length : Int) != N.length) = true := by simp; omega
    have hlN : ¬ (M.length : Int) = N.length := by omega
    have HF := Lib.hid (show decide (M = N) = false from decide_eq_false fun e => hl (by rw [e]))
    go_enter Tryz.func12, Tryz.ntmps12
    go_wp2
    go_ret
    exact ⟨by rw [HF.out]; rfl, Below.refl _ _⟩
  case pos =>
    obtain ⟨n, hn⟩ : ∃ n, N.length = n := ⟨_, rfl⟩
    have HL := Lib.hid (And.intro (hl.trans hn) hn)
    rw [hl, hn] at hM
    rw [hl, hn]
    have hnB : ((n : Int) != n) = false := by simp
    clear hl hn
    go_enter Tryz.func12, Tryz.ntmps12
    go_wp2_with fail
    go_loopg [5] (n + 1) (fun gg v5 wr => ∃ i : Nat, v5 = .int .i64 (i : Int) ∧ i ≤ n ∧ n - i < gg ∧ M.take i = N.take i ∧ Below w.heap.size w wr)
    case atStart => exact ⟨0, rfl, Nat.zero_le _, by omega, rfl, Below.refl _ _⟩
    case round =>
      obtain ⟨i, rfl, hi, hig, he, hib⟩ := hrel
      have HIG := Lib.hid hig
      have HIB := Lib.hid hib
      have HE := Lib.hid he
      clear hig hib he
      by_cases him : i < n
      · have himI : (i : Int) < (n : Int) := by omega
        obtain ⟨V, rfl⟩ : ∃ X, X = wr := ⟨_, rfl⟩
        obtain ⟨x, hx⟩ : ∃ x, M[i]? = some x := ⟨M[i]'(by rw [HL.out.1]; exact him), List.getElem?_eq_getElem _⟩
        obtain ⟨y, hy⟩ : ∃ y, N[i]? = some y := ⟨N[i]'(by rw [HL.out.2]; exact him), List.getElem?_eq_getElem _⟩
        obtain ⟨A, A1, c1, rfl, a1, hs1⟩ := HA.out i x hx
        obtain ⟨B, B1, d1, rfl, b1, hs2⟩ := HB.out i y hy
        have hxr := HR.out x (List.mem_of_getElem? hx)
        have HX := Lib.hid (show M.take (i + 1) = M.take i ++ [x] ∧ N.take (i + 1) = N.take i ++ [y] from ⟨by rw [List.take_add_one, hx]; rfl, by rw [List.take_add_one, hy]; rfl⟩)
        have HXY := Lib.hid (And.intro hx hy)
        have HNE := Lib.hid (show x ≠ y → decide (M = N) = false from fun hne => decide_eq_false fun e => by
          have := HXY.out
          rw [e, this.2] at this
          exact hne (Option.some.inj this.1).symm)
        have HAB := Lib.hid (And.intro a1 b1)
        have HS1 := Lib.hid hs1
        have HS2 := Lib.hid hs2
        have g1 := cellBelow a1 HIB.out
        have g2 := cellBelow b1 HIB.out
        haveI := cls_some V
        obtain ⟨p, hp⟩ : ∃ p, x.length = p := ⟨_, rfl⟩
        obtain ⟨q, hq⟩ : ∃ q, y.length = q := ⟨_, rfl⟩
        rw [hp] at g1 a1 hxr
        rw [hq] at g2 b1
        have f0 : ∀ u : Cl V, u.x.cell? (A.add i) = some (.slice A1 p c1) := fun u => cellBelow g1 u.h
        have f1 : ∀ u : Cl V, u.x.cell? (B.add i) = some (.slice B1 q d1) := fun u => cellBelow g2 u.h
        have HPQ := Lib.hid (And.intro hp hq)
        have HA1 := Lib.hid a1
        have HB1 := Lib.hid b1
        clear a1 b1 hs1 hs2 hx hy hp hq g1 g2
        by_cases hpq : p = q
        case neg =>
          have hpB : ((p : Int) != (q : Int)) = true := by simp; omega
          have hpN : ¬ (p : Int) = (q : Int) := by omega
          have HF := Lib.hid (HNE.out fun e => hpq (by rw [← HPQ.out.1, ← HPQ.out.2, e]))
          clear hpq
          go_wp2_with fail
          refine wp_region_cls (by kernel_rfl) ?_
          iterate 11 (go_big_quiet_step (fail))
          refine wpQuiet_nil ?_
          intro w7 hw7
          obtain ⟨u7, rfl⟩ := hw7
          have HU := Lib.hid (bstep HIB.out u7.h)
          obtain ⟨W7, hW7⟩ : ∃ U, u7.x = U := ⟨_, rfl⟩
          rw [hW7] at HU ⊢
          clear hW7 f0 f1 this u7
          go_wp2
          go_ret
          exact ⟨by rw [HF.out]; rfl, HU.out⟩
        case pos =>
          subst hpq
          have hpB : ((p : Int) != (p : Int)) = false := by simp
          go_wp2_with fail
          refine wp_region_cls (by kernel_rfl) ?_
          iterate 11 (go_big_quiet_step (fail))
          refine wpQuiet_nil ?_
          intro w7 hw7
          obtain ⟨u7, rfl⟩ := hw7
          have HU := Lib.hid (bstep HIB.out u7.h)
          obtain ⟨W7, hW7⟩ : ∃ U, u7.x = U := ⟨_, rfl⟩
          rw [hW7] at HU ⊢
          clear hW7 f0 f1 this u7
          go_wp2_with fail
          go_loopg [6] (p + 1) (fun gg v6 wq => ∃ q : Nat, v6 = .int .i64 (q : Int) ∧ q ≤ p ∧ p - q < gg ∧ x.take q = y.take q ∧ Below w.heap.size w wq)
          case atStart => exact ⟨0, rfl, by omega, by omega, rfl, HU.out⟩
          case round =>
            obtain ⟨q, rfl, hq, hqg, hqe, hqb⟩ := hrel
            have HQG := Lib.hid hqg
            have HQB := Lib.hid hqb
            have HQE := Lib.hid hqe
            clear hqg hqb hqe HU
            obtain ⟨V2, rfl⟩ : ∃ X, X = wr := ⟨_, rfl⟩
            have e0 := cellBelow HA1.out HQB.out
            by_cases hq2 : q < p
            · have hqI : (q : Int) < (p : Int) := by omega
              obtain ⟨⟨n1, s1⟩, hx⟩ : ∃ z, x[q]? = some z := ⟨x[q]'(by rw [HPQ.out.1]; exact hq2), List.getElem?_eq_getElem _⟩
              obtain ⟨⟨n2, s2⟩, hy⟩ : ∃ z, y[q]? = some z := ⟨y[q]'(by rw [HPQ.out.2]; exact hq2), List.getElem?_eq_getElem _⟩
              obtain ⟨C, hC, c0, c1'⟩ := (HS1.out.below HQB.out) q n1 s1 hx
              obtain ⟨D, hD, d0, d1'⟩ := (HS2.out.below HQB.out) q n2 s2 hy
              have c2 : V2.cell? ⟨(C.add (q * 2)).block, (C.add (q * 2)).off + 1, none⟩ = some (.string s1) := by rw [addr_next]; exact c1'
              have d2 : V2.cell? ⟨(D.add (q * 2)).block, (D.add (q * 2)).off + 1, none⟩ = some (.string s2) := by rw [addr_next]; exact d1'
              have e1 := cellBelow HB1.out HQB.out
              have HX2 := Lib.hid (And.intro (take_sn hx) (take_sn hy))
              have HXZ := Lib.hid (And.intro hx hy)
              haveI := cls_some V2
              have f0 : ∀ u : Cl V2, u.x.cell? (A.add i) = some (.slice (some C) p c1) := fun u => by rw [← hC]; exact cellBelow e0 u.h
              have f1 : ∀ u : Cl V2, u.x.cell? (B.add i) = some (.slice (some D) p d1) := fun u => by rw [← hD]; exact cellBelow e1 u.h
              have f2 : ∀ u : Cl V2, u.x.cell? (C.add (q * 2)) = some (.bool n1) := fun u => cellBelow c0 u.h
              have f3 : ∀ u : Cl V2, u.x.cell? ⟨(C.add (q * 2)).block, (C.add (q * 2)).off + 1, none⟩ = some (.string s1) := fun u => cellBelow c2 u.h
              have f4 : ∀ u : Cl V2, u.x.cell? (D.add (q * 2)) = some (.bool n2) := fun u => cellBelow d0 u.h
              have f5 : ∀ u : Cl V2, u.x.cell? ⟨(D.add (q * 2)).block, (D.add (q * 2)).off + 1, none⟩ = some (.string s2) := fun u => cellBelow d2 u.h
              clear hx hy hC hD c0 c1' d0 d1' c2 d2 e1
              by_cases hxy : eqI n1 s1 n2 s2 = true
              · have HXE := Lib.hid (eqI_iff.1 hxy)
                have hb1 : (!eqI n1 s1 n2 s2) = false := by rw [hxy]; rfl
                clear hxy
                go_wp2_with fail
                refine wp_region_cls (by kernel_rfl) ?_
                iterate 15 (go_big_quiet_step (fail))
                refine wpQuiet_nil ?_
                intro w8 hw8
                obtain ⟨u8, rfl⟩ := hw8
                have HU := Lib.hid (bstep HQB.out u8.h)
                obtain ⟨W8, hW8⟩ : ∃ U, u8.x = U := ⟨_, rfl⟩
                rw [hW8] at HU ⊢
                clear hW8 f0 f1 f2 f3 f4 f5 this u8
                go_wp2_with fail
                go_roundg (p - q)
                case measure => have := HQG.out; omega
                case rel => exact ⟨q + 1, by go_num, by omega, by omega, by rw [HX2.out.1, HX2.out.2, HQE.out, HXE.out.1, HXE.out.2], HU.out⟩
              · have hb1 : eqI n1 s1 n2 s2 = false := by simpa using hxy
                have hb2 : (!eqI n1 s1 n2 s2) = true := by rw [hb1]; rfl
                have HF := Lib.hid (HNE.out fun e => by
                  have := HXZ.out
                  rw [e, this.2] at this
                  have h2 := Option.some.inj this.1
                  exact hxy (eqI_iff.2 ⟨(congrArg Prod.fst h2).symm, (congrArg Prod.snd h2).symm⟩))
                clear hxy
                go_wp2_with fail
                refine wp_region_cls (by kernel_rfl) ?_
                iterate 15 (go_big_quiet_step (fail))
                refine wpQuiet_nil ?_
                intro w8 hw8
                obtain ⟨u8, rfl⟩ := hw8
                have HU := Lib.hid (bstep HQB.out u8.h)
                obtain ⟨W8, hW8⟩ : ∃ U, u8.x = U := ⟨_, rfl⟩
                rw [hW8] at HU ⊢
                clear hW8 f0 f1 f2 f3 f4 f5 this u8
                go_wp2
                go_ret
                exact ⟨by rw [HF.out]; rfl, HU.out⟩
            · obtain rfl : q = p := by omega
              have hB : decide ((q : Int) < q) = false := by simp
              have HXEQ := Lib.hid (show x = y from by
                have h := HQE.out
                rwa [List.take_of_length_le (Nat.le_of_eq HPQ.out.1), List.take_of_length_le (Nat.le_of_eq HPQ.out.2)] at h)
              go_wp2_with fail
              go_roundg (n - i)
              case measure => have := HIG.out; omega
              case rel => exact ⟨i + 1, by go_num, by omega, by omega, by rw [HX.out.1, HX.out.2, HE.out, HXEQ.out], HQB.out⟩
      · obtain rfl : i = n := by omega
        have hB : decide ((i : Int) < i) = false := by simp
        have HF := Lib.hid (show decide (M = N) = true from decide_eq_true (by
          have h := HE.out
          rwa [List.take_of_length_le (Nat.le_of_eq HL.out.1), List.take_of_length_le (Nat.le_of_eq HL.out.2)] at h))
        go_wp2
        go_ret
        exact ⟨by rw [HF.out]; rfl, HIB.out⟩
end Go.Proofs.Gv
