/- huffman.Check. -/
import Derived.Test.YtdflafnfaccciaaHjoC
import Derived.Test.YtdflafnfaccciaaHdpsP
set_option linter.unusedSimpArgs false
set_option linter.unusedVariables false
namespace Go.Proofs.Gv
open Go Go.RowKit Go.Maps

def wtsOf (L : List (Bool × ByteArray)) : List Nat := L.map fun x => bv x.2.data.toList
theorem wtsOf_VL (Ws : List Nat) : wtsOf (VL Ws) = Ws := by
  unfold wtsOf VL
  rw [List.map_map]
  exact (List.map_congr_left fun x _ => bv_mg x).trans (List.map_id Ws)
noncomputable def chkE (L : List (Bool × ByteArray)) (ps : List (Int × Int)) : Int :=
  if chkW L ≠ 0 then chkW L else if ps.length + 1 ≠ L.length then 11 else match joinsJ true ps ((wtsOf L).map fun w => (w, true)) with
    | none => 23
    | some _ => 0
set_option maxRecDepth 100000 in
set_option maxHeartbeats 4000000 in
theorem Check_m_any (a : Option Addr) (cap : Nat) (L : List (Bool × ByteArray)) (v : Value) (ps : List (Int × Int)) (hL : L.length ≤ maxLen) (hz : ∀ x ∈ L, x.2.size ≤ 8) (hps : ps.length ≤ 1000) (hwf : ∀ x ∈ ps, (Lit.int .i64 x.1).wf = true ∧ (Lit.int .i64 x.2).wf = true) (w : World) (hSl : Sl w a L) (hv : MrgA w v ps) :
    Calls Try.prog 8 #[.slice a L.length cap, v] w fun e w' => e = .returned (.int .i64 (chkE L ps)) ∧ Below w.heap.size w w' := by
  have hcc := checkW_any a cap L w hL (fun x hx => Nat.le_trans (hz x hx) (by decide)) hSl
  obtain ⟨av, cv, rfl, hat⟩ := hv
  have HV := Lib.hid (show MrgA w (.slice av ps.length cv) ps from ⟨av, cv, rfl, hat⟩)
  have HCK := Lib.hid hcc
  have HS := Lib.hid hSl
  have HLM := Lib.hid hL
  have HZ := Lib.hid hz
  have HWF := Lib.hid hwf
  clear hcc hat hSl hL hz hwf
  by_cases h0 : ¬ chkW L = 0
  · have HE := Lib.hid (show chkE L ps = chkW L by unfold chkE; rw [if_pos h0])
    obtain ⟨E, hE⟩ : ∃ E, chkW L = E := ⟨_, rfl⟩
    rw [hE] at HCK HE h0
    have hne : (E != 0) = true := by simpa using h0
    clear h0 hE
    go_enter Try.func8, Try.ntmps8
    go_wp2_with fail
    refine HCK.out.mono ?_
    rintro e w1 ⟨rfl, hb⟩
    have HB := Lib.hid hb
    clear hb
    go_wp2
    go_ret
    exact ⟨by rw [HE.out]; rfl, HB.out⟩
  have h0 := Decidable.not_not.1 h0
  obtain ⟨g2, g64, Ws, hWs⟩ := chkW_ok h0
  obtain rfl : L = VL Ws := hWs
  rw [h0, VL_len] at HCK
  rw [VL_len] at g2 g64 ⊢
  have hgI : (2 : Int) ≤ Ws.length := by omega
  by_cases h1 : ((ps.length : Int) != (Ws.length : Int) - 1) = true
  · have HE := Lib.hid (show chkE (VL Ws) ps = 11 by
      have h1' : (ps.length : Int) ≠ (Ws.length : Int) - 1 := by simpa using h1
      unfold chkE; rw [if_neg (by rw [h0]; simp), VL_len, if_pos (by omega)])
    clear h0
    go_enter Try.func8, Try.ntmps8
    go_wp2_with fail
    refine HCK.out.mono ?_
    rintro e w1 ⟨rfl, hb⟩
    have HB := Lib.hid hb
    clear hb
    go_wp2
    go_ret
    exact ⟨by rw [HE.out]; rfl, HB.out⟩
  have h1B : ((ps.length : Int) != (Ws.length : Int) - 1) = false := by simpa using h1
  have h1e : ps.length + 1 = Ws.length := by simp at h1B; omega
  have HE := Lib.hid (show chkE (VL Ws) ps = match joinsJ true ps (Ws.map fun w => (w, true)) with | none => 23 | some _ => 0 from by
    unfold chkE; rw [if_neg (by rw [h0]; simp), VL_len, if_neg (by omega), wtsOf_VL])
  have HWZ := Lib.hid (VL_lt HZ.out)
  have HALL := Lib.hid (fun W => all_any a Ws.length cap W)
  have HCO := Lib.hid (fun Bn W hc hS => collect_any Bn cap a Ws (by omega) W hc hS (Sl.lt hS (by rw [VL_len]; omega)))
  have HJN := Lib.hid (fun Bw bw W hm h1 h2 h3 => jocJ_any Ws.length Ws rfl (by omega) (.slice av ps.length cv) ps hps HWF.out W hm Bw bw h1 h2 h3)
  clear h0 h1 hps
  go_enter Try.func8, Try.ntmps8
  go_wp2_with fail
  refine HCK.out.mono ?_
  rintro e w1 ⟨rfl, hb1⟩
  have HB1 := Lib.hid hb1
  clear hb1
  go_wp2_with fail
  refine (HALL.out _).mono ?_
  rintro e w2 ⟨rfl, ew⟩
  subst ew
  have hab : Below w1.heap.size w1 (w1.alloc (.cells #[.slice a Ws.length cap] 22)) := (Below.refl _ _).alloc (Nat.le_refl _) _
  have HCO2 := Lib.hid (HCO.out w1.heap.size _ (BC.new w1 w1.heap.size #[.slice a Ws.length cap] 22 rfl) ((HS.out.below HB1.out).below hab))
  have HB2 := Lib.hid (bstep HB1.out hab)
  clear hab
  go_wp2_with fail
  refine HCO2.out.mono ?_
  rintro e w3 ⟨bw, rfl, hbb, hml, hb3⟩
  have hbA := bstep hb3 ((Below.refl _ w3).alloc (Nat.le_refl _) (.cells #[.map (some bw)] 57))
  have HB3 := Lib.hid (bstep HB2.out hbA)
  have HBW := Lib.hid (show w.heap.size ≤ bw from Nat.le_trans HB2.out.size hbb)
  have HML := Lib.hid (hml.below ((Below.refl _ w3).alloc (Nat.le_refl _) (.cells #[.map (some bw)] 57)))
  have HBX := Lib.hid (BC.new w3 w3.heap.size #[.map (some bw)] 57 rfl)
  have HLT := Lib.hid (show bw < w3.heap.size from hml.lt)
  obtain ⟨W3, hW3⟩ : ∃ W, w3.alloc (.cells #[.map (some bw)] 57) = W := ⟨_, rfl⟩
  obtain ⟨Bw, hBw⟩ : ∃ B, w3.heap.size = B := ⟨_, rfl⟩
  rw [hW3] at HB3 HML HBX
  rw [hBw] at HBX HLT
  clear hbb hml hb3 hbA HCO2 HB2 HB1
  have HJC := Lib.hid (show JC Bw bw (Ws.map fun w => (w, true)) W3 from by
    obtain ⟨D, d1, d2, d3, d4⟩ := HML.out.ex
    refine ⟨HBX.out, ⟨Ws.length, _, by rw [List.length_map]; exact Nat.le_refl _, ⟨D, d1, rfl, fun x => ?_, fun x d hx zd => ?_⟩⟩, fun i => ?_⟩
    · show Maps.has D (.int .i64 x) = _
      rw [d3]
      unfold wt freeI
      by_cases hx : 0 ≤ x
      · rw [List.getElem?_map, List.length_map]
        by_cases hx2 : x.toNat < Ws.length
        · rw [List.getElem?_eq_getElem hx2, if_pos (by omega)]; simp [hx]
        · rw [List.getElem?_eq_none (by omega), if_neg (by omega)]; simp
      · rw [if_neg (by omega)]; simp [hx]
    · show D.atKey (.int .i64 x) zd = d
      unfold wt at hx
      split at hx
      · rename_i hx2
        rw [List.length_map] at hx2
        obtain ⟨m, rfl⟩ : ∃ m : Nat, x = m := ⟨x.toNat, by omega⟩
        have hm : m < Ws.length := by omega
        have h2 : (Ws.map fun w => (w, true))[m]? = some (Ws[m], true) := by rw [List.getElem?_map, List.getElem?_eq_getElem hm]; rfl
        rw [d4 m Ws[m] h2]
        rw [Int.toNat_natCast, wAt_of h2] at hx
        exact Option.some.inj hx
      · cases hx
    · rw [List.length_map]
      unfold wAt
      rw [List.getElem?_map]
      have h9 : (2 : Nat) ^ 64 ≤ 2 ^ (64 + Ws.length) := Nat.pow_le_pow_right (by decide) (by omega)
      cases hi : Ws[i]? with
      | none => simp; exact Nat.lt_of_lt_of_le (by decide) h9
      | some z => simp; exact Nat.lt_of_lt_of_le (HWZ.out z (List.mem_of_getElem? hi)) h9)
  have HJN2 := Lib.hid (HJN.out Bw bw W3 (HV.out.below HB3.out) HJC.out (by have := HLT.out; omega) (fun a' n' c' A' e1 e2 => by
    obtain ⟨aa, cc, ee, hat⟩ := HV.out
    cases e1
    cases ee
    obtain ⟨q1, -⟩ := mrgV_at ps 0 ps[0] (List.getElem?_eq_getElem (by omega))
    obtain ⟨g0, eg, hc0⟩ := hat _ _ q1
    rw [e2] at eg
    cases eg
    have h9 := World.block_lt_of_cell? w _ hc0
    rw [block_add] at h9
    have := HBW.out
    omega))
  cases hj : joinsJ true ps (Ws.map fun w => (w, true)) with
  | none =>
    rw [hj] at HJN2 HE
    clear hj
    go_wp2_with fail
    clear hW3 hBw
    refine HJN2.out.mono ?_
    rintro e w4 ⟨rfl, hg⟩
    have HG := Lib.hid (HB3.out.grown hg HB3.out.size (fun k e => by cases e; exact HBW.out))
    clear hg
    go_wp2
    go_ret
    exact ⟨by rw [HE.out]; rfl, HG.out⟩
  | some ms =>
    rw [hj] at HJN2 HE
    clear hj
    go_wp2_with fail
    clear hW3 hBw
    refine HJN2.out.mono ?_
    rintro e w4 ⟨ov, LL, rfl, -, -, hg⟩
    have HG := Lib.hid (HB3.out.grown hg HB3.out.size (fun k e => by cases e; exact HBW.out))
    clear hg
    go_wp2
    go_ret
    exact ⟨by rw [HE.out]; rfl, HG.out⟩
end Go.Proofs.Gv
