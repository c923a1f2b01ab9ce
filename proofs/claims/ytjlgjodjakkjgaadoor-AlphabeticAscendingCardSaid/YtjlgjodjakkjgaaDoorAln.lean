/- alphabetic: Lengths, Cost, Table. -/
import Derived.Test.YtjlgjodjakkjgaaDoorAdp
set_option linter.unusedSimpArgs false
set_option linter.unusedVariables false
namespace Go.Proofs.Gv
open Go Go.RowKit Go.Maps

theorem VLlt {Ws : List Nat} (h : ∀ x ∈ VL Ws, x.2.size ≤ 8) : ∀ z ∈ Ws, z < 2 ^ 64 := fun z hz =>
  mg_lt (h (false, mg z) (List.mem_map.2 ⟨z, hz, rfl⟩)) (by omega)
theorem seg_all {Ws : List Nat} (h : 1 ≤ Ws.length) : seg Ws 0 (Ws.length - 1) = Ws := by
  unfold seg
  rw [List.drop_zero, Nat.sub_add_cancel h, List.take_length]
theorem dpL_zero (l : List Nat) : dpL 0 l = l := by unfold dpL; exact (List.map_congr_left fun x _ => rfl).trans (List.map_id _)
/-- A row of lengths. -/
def NR2 (W : World) (v : Value) (ds : List Nat) : Prop := ∃ g c, v = .slice (some ⟨g, 0, none⟩) ds.length c ∧ ds.length ≤ c ∧ c ≤ maxLen ∧ ∀ (i d : Nat), ds[i]? = some d → W.cell? ⟨g, i, none⟩ = some (.int .i64 (d : Int))
theorem NR2.below {W W' : World} {v : Value} {ds : List Nat} (h : NR2 W v ds) (hb : Below W.heap.size W W') : NR2 W' v ds := by
  obtain ⟨g, c, rfl, h1, h2, h3⟩ := h
  exact ⟨g, c, rfl, h1, h2, fun i d hi => (hb.cell (World.block_lt_of_cell? _ _ (h3 i d hi))).trans (h3 i d hi)⟩
theorem NR2.own {W : World} {base : Nat} {e : TypeId} {v : Value} {ds : List Nat} (h : W.ownsRow base e 1 v ds.length (natV ds)) (h1 : 1 ≤ ds.length) : NR2 W v ds := by
  have hh := h
  rcases h.2 with ⟨rfl, h0⟩ | ⟨g, cap, cur, rfl, -, -, hcap, hcm, -⟩
  · omega
  · refine ⟨g, cap, rfl, hcap, hcm, fun i d hi => ?_⟩
    have := (List.getElem?_eq_some_iff.1 hi).1
    rw [hh.cellAt i (by omega)]
    unfold natV
    rw [List.getElem?_map, hi]
    rfl
def LnP (L : List (Bool × ByteArray)) (w : World) (e : Ending) (w' : World) : Prop :=
  (chkW L ≠ 0 → e = .returned (.tuple #[.slice none 0 0, .int .i64 (chkW L)])) ∧ (chkW L = 0 → ∃ Ws v, L = VL Ws ∧ e = .returned (.tuple #[v, .int .i64 0]) ∧ NR2 w' v (alD Ws.length Ws)) ∧ Below w.heap.size w w'
def CsP (L : List (Bool × ByteArray)) (w : World) (e : Ending) (w' : World) : Prop :=
  (chkW L ≠ 0 → e = .returned (.tuple #[.agg #[.bool false, .string ⟨#[]⟩], .int .i64 (chkW L)])) ∧ (chkW L = 0 → ∃ Ws, L = VL Ws ∧ e = .returned (.tuple #[.agg #[.bool false, .string (mg (alc Ws))], .int .i64 0])) ∧ Below w.heap.size w w'
def TbP (L : List (Bool × ByteArray)) (w : World) (e : Ending) (w' : World) : Prop :=
  (chkW L ≠ 0 → e = .returned (.tuple #[.slice none 0 0, .int .i64 (chkW L)])) ∧ (chkW L = 0 → ∃ Ws v, L = VL Ws ∧ e = .returned (.tuple #[v, .int .i64 0]) ∧ RwS w' v (tabM Ws)) ∧ Below w.heap.size w w'
theorem Sl.some {W : World} {a : Option Addr} {L : List (Bool × ByteArray)} (h : Sl W a L) (h1 : 1 ≤ L.length) : ∃ A, a = some A := by
  obtain ⟨A, e, -⟩ := h 0 (L[0]'(by omega)).1 (L[0]'(by omega)).2 (List.getElem?_eq_getElem (by omega))
  exact ⟨A, e⟩
section
variable (a : Option Addr) (cap : Nat) (L : List (Bool × ByteArray)) (hc : L.length ≤ cap) (hcm : cap ≤ maxLen) (hz : ∀ x ∈ L, x.2.size ≤ 8) (w : World) (hS : Sl w a L)
include hc hcm hz hS
set_option maxRecDepth 100000 in
set_option maxHeartbeats 1600000 in
theorem Table_al : Calls Tryd.prog 13 #[.slice a L.length cap] w (TbP L w) := by
  have HCK := Lib.hid (checkA_any a cap L w (Nat.le_trans hc hcm) (fun x hx => Nat.le_trans (hz x hx) (by decide)) hS)
  by_cases h0 : ¬ chkW L = 0
  · obtain ⟨E, hE⟩ : ∃ E, chkW L = E := ⟨_, rfl⟩
    have HE := Lib.hid hE
    rw [hE] at HCK h0
    have hne : (E != 0) = true := by simpa using h0
    have HN := Lib.hid h0
    clear h0 hE hS hz
    go_enter Tryd.func13, Tryd.ntmps13
    go_wp2_with fail
    refine HCK.out.mono ?_
    rintro e w1 ⟨rfl, hb⟩
    go_wp2
    go_ret2
    unfold TbP
    rw [HE.out]
    exact ⟨fun _ => rfl, fun h => absurd h HN.out, hb⟩
  · have h0 := Decidable.not_not.1 h0
    obtain ⟨h2, h64, Ws, hWs⟩ := chkW_ok h0
    obtain rfl : L = VL Ws := hWs
    have HL0 := Lib.hid h0
    rw [h0] at HCK
    obtain ⟨A, rfl⟩ := hS.some (by omega)
    rw [VL_len] at hc h2 h64 HCK ⊢
    have HTB := Lib.hid (fun W (hb : Below w.heap.size w W) => table_any A cap Ws h2 h64 hc hcm (VLlt hz) W (hS.below hb))
    clear h0 hS hz
    go_enter Tryd.func13, Tryd.ntmps13
    go_wp2_with fail
    refine HCK.out.mono ?_
    rintro e w1 ⟨rfl, hb⟩
    have HB := Lib.hid hb
    have HT1 := Lib.hid (HTB.out w1 hb)
    clear hb
    go_wp2_with fail
    refine HT1.out.mono ?_
    rintro e w2 ⟨v, rfl, hr, hb2⟩
    have HR := Lib.hid hr
    have HB2 := Lib.hid (bstep HB.out hb2)
    clear hr hb2
    go_wp2
    go_ret2
    unfold TbP
    exact ⟨fun h => absurd HL0.out h, fun _ => ⟨Ws, v, rfl, rfl, HR.out⟩, HB2.out⟩
set_option maxRecDepth 100000 in
set_option maxHeartbeats 1600000 in
theorem Lengths_al : Calls Tryd.prog 11 #[.slice a L.length cap] w (LnP L w) := by
  have HCK := Lib.hid (checkA_any a cap L w (Nat.le_trans hc hcm) (fun x hx => Nat.le_trans (hz x hx) (by decide)) hS)
  by_cases h0 : ¬ chkW L = 0
  · obtain ⟨E, hE⟩ : ∃ E, chkW L = E := ⟨_, rfl⟩
    have HE := Lib.hid hE
    rw [hE] at HCK h0
    have hne : (E != 0) = true := by simpa using h0
    have HN := Lib.hid h0
    clear h0 hE hS hz
    go_enter Tryd.func11, Tryd.ntmps11
    go_wp2_with fail
    refine HCK.out.mono ?_
    rintro e w1 ⟨rfl, hb⟩
    go_wp2
    go_ret2
    unfold LnP
    rw [HE.out]
    exact ⟨fun _ => rfl, fun h => absurd h HN.out, hb⟩
  · have h0 := Decidable.not_not.1 h0
    obtain ⟨h2, h64, Ws, hWs⟩ := chkW_ok h0
    obtain rfl : L = VL Ws := hWs
    have HL0 := Lib.hid h0
    rw [h0] at HCK
    obtain ⟨A, rfl⟩ := hS.some (by omega)
    rw [VL_len] at hc h2 h64 HCK ⊢
    have HTB := Lib.hid (fun W (hb : Below w.heap.size w W) => table_any A cap Ws h2 h64 hc hcm (VLlt hz) W (hS.below hb))
    have HWZ := Lib.hid (VLlt hz)
    obtain ⟨n, hn⟩ : ∃ n, Ws.length = n := ⟨_, rfl⟩
    have HSA := Lib.hid (seg_all (Ws := Ws) (by omega))
    have HNN := Lib.hid hn
    obtain ⟨m, hm⟩ : ∃ m, n - 1 = m := ⟨_, rfl⟩
    have hmI : (n : Int) - 1 = (m : Int) := by omega
    rw [hn] at h2 h64 hc HCK HTB HSA ⊢
    rw [hm] at HSA
    have HMM := Lib.hid hm
    clear h0 hS hz hm hn
    go_enter Tryd.func11, Tryd.ntmps11
    go_wp2_with fail
    refine HCK.out.mono ?_
    rintro e w1 ⟨rfl, hb⟩
    have HB := Lib.hid hb
    have HT1 := Lib.hid (HTB.out w1 hb)
    clear hb
    go_wp2_with fail
    refine HT1.out.mono ?_
    rintro e w2 ⟨v, rfl, hr, hb2⟩
    have HB2 := Lib.hid (bstep HB.out hb2)
    obtain ⟨G, c, rfl, hgc, hgm, hrw⟩ := id hr
    rw [tabM_len, HNN.out] at hgc ⊢
    rw [tabM_len] at hr
    have HDP := Lib.hid (depths_al w2 G c Ws (by rw [HNN.out]; exact h64) HWZ.out hr n 0 m 0 (by have := HMM.out; omega) (by rw [HNN.out]; have := HMM.out; omega) (by omega) h64 (.slice none 0 0) [] w2 (by show 0 ≤ _; omega) (ownNil _ _ _ _) (Below.refl _ _))
    rw [HNN.out, HSA.out, dpL_zero] at HDP
    clear hr hb2 hrw
    go_wp2_with fail
    refine HDP.out.mono ?_
    intro e w3 hq
    obtain ⟨v3, rfl, ho, hg, -⟩ := hq
    have HO := Lib.hid ho
    have HB3 := Lib.hid (bstep HB2.out (gBelow hg))
    clear ho hg
    go_wp2
    go_ret2
    unfold LnP
    have hlen : (alD n Ws).length = n := by
      have := (alD_spec n Ws (by rw [HNN.out]; exact Nat.le_refl _) (by rw [HNN.out]; omega)).1
      rw [this, HNN.out]
    refine ⟨fun h => absurd HL0.out h, fun _ => ⟨Ws, v3, rfl, rfl, ?_⟩, HB3.out⟩
    rw [HNN.out]
    exact NR2.own HO.out (by rw [hlen]; omega)
set_option maxRecDepth 100000 in
set_option maxHeartbeats 1600000 in
theorem Cost_al : Calls Tryd.prog 12 #[.slice a L.length cap] w (CsP L w) := by
  have HCK := Lib.hid (fun W (hb : Below w.heap.size w W) => checkA_any a cap L W (Nat.le_trans hc hcm) (fun x hx => Nat.le_trans (hz x hx) (by decide)) (hS.below hb))
  have hb1 : Below w.heap.size w (w.alloc (.cells #[.bool false, .string ⟨#[]⟩] 38)) := (Below.refl _ _).alloc (Nat.le_refl _) _
  have bR := BC.new w w.heap.size #[.bool false, .string ⟨#[]⟩] 38 rfl
  obtain ⟨p, hp⟩ : ∃ p, w.heap.size = p := ⟨_, rfl⟩
  obtain ⟨X, hX⟩ : ∃ X, w.alloc (.cells #[.bool false, .string ⟨#[]⟩] 38) = X := ⟨_, rfl⟩
  rw [hX] at hb1 bR
  rw [hp] at bR
  have HBX := Lib.hid hb1
  have HBR := Lib.hid bR
  have HC1 := Lib.hid (HCK.out X hb1)
  clear hb1 bR
  by_cases h0 : ¬ chkW L = 0
  · obtain ⟨E, hE⟩ : ∃ E, chkW L = E := ⟨_, rfl⟩
    have HE := Lib.hid hE
    rw [hE] at HC1 h0
    have hne : (E != 0) = true := by simpa using h0
    have HN := Lib.hid h0
    clear h0 hE hS hz
    go_enter Tryd.func12, Tryd.ntmps12
    go_wp2_with fail
    refine HC1.out.mono ?_
    rintro e w1 ⟨rfl, hb⟩
    have HB := Lib.hid (bstep HBX.out hb)
    have b1 := HBR.out.below hb
    have t0 := b1.at 0 _ rfl
    have t1 := b1.at 1 _ rfl
    have z0 := b1.z 0 (by simp)
    have z1 := b1.z 1 (by simp)
    have bS := b1.set2 0 1 (.bool false) (.string ⟨#[]⟩) (by simp) (by simp)
    have s0 := bS.at 0 _ rfl
    have s1 := bS.at 1 _ rfl
    have HBY := Lib.hid (belowSet (belowSet HB.out (b := p) (o := 0) (.bool false) (by omega)) (b := p) (o := 1) (.string ⟨#[]⟩) (by omega))
    clear hb b1 bS
    go_wp2
    refine bodyPost_ret (v := .tuple #[.agg #[.bool false, .string ⟨#[]⟩], .int .i64 E]) (by simp [results, Tryd.results12, go_sem, s0, s1]) rfl ?_
    unfold CsP
    rw [HE.out]
    exact ⟨fun _ => rfl, fun h => absurd h HN.out, HBY.out⟩
  · have h0 := Decidable.not_not.1 h0
    obtain ⟨h2, h64, Ws, hWs⟩ := chkW_ok h0
    obtain rfl : L = VL Ws := hWs
    have HL0 := Lib.hid h0
    rw [h0] at HC1
    obtain ⟨A, rfl⟩ := hS.some (by omega)
    rw [VL_len] at hc h2 h64 HC1 ⊢
    have HTB := Lib.hid (fun W (hb : Below w.heap.size w W) => table_any A cap Ws h2 h64 hc hcm (VLlt hz) W (hS.below hb))
    obtain ⟨n, hn⟩ : ∃ n, Ws.length = n := ⟨_, rfl⟩
    have HSA := Lib.hid (seg_all (Ws := Ws) (by omega))
    have HNN := Lib.hid hn
    obtain ⟨m, hm⟩ : ∃ m, n - 1 = m := ⟨_, rfl⟩
    have hmI : (n : Int) - 1 = (m : Int) := by omega
    rw [hn] at h2 h64 hc HC1 HTB HSA ⊢
    rw [hm] at HSA
    have HMM := Lib.hid hm
    clear h0 hS hz hm hn
    go_enter Tryd.func12, Tryd.ntmps12
    go_wp2_with fail
    refine HC1.out.mono ?_
    rintro e w1 ⟨rfl, hb⟩
    have HB := Lib.hid (bstep HBX.out hb)
    have HBR1 := Lib.hid (HBR.out.below hb)
    have HT1 := Lib.hid (HTB.out w1 HB.out)
    clear hb
    go_wp2_with fail
    refine HT1.out.mono ?_
    rintro e w2 ⟨v, rfl, hr, hb2⟩
    have HB2 := Lib.hid (bstep HB.out hb2)
    have b1 := HBR1.out.below hb2
    have t0 := b1.at 0 _ rfl
    have t1 := b1.at 1 _ rfl
    have z0 := b1.z 0 (by simp)
    have z1 := b1.z 1 (by simp)
    obtain ⟨G, c, rfl, hgc, hgm, hrw⟩ := hr
    rw [tabM_len, HNN.out] at hgc ⊢
    obtain ⟨Ai, ci, c0, k1, k2, k3⟩ := hrw 0 _ (tabM_at (by rw [HNN.out]; omega))
    have hlr : (VL (tabR Ws 0)).length = n := by rw [VL_len, tabR_len, HNN.out, Nat.sub_zero]
    rw [hlr] at c0 k1
    have hG0 : G.add 0 = G := by unfold Addr.add; simp
    rw [hG0] at c0
    have hr0 : (tabR Ws 0)[m]? = some (alc Ws) := by
      unfold tabR
      rw [List.getElem?_map, List.getElem?_range (by have := HMM.out; rw [HNN.out]; omega)]
      show some (alc (seg Ws 0 m)) = _
      rw [HSA.out]
    obtain ⟨A', eA, q0, q1⟩ := k3 m _ _ (VL_at hr0)
    cases eA
    rw [← addr_next] at q1
    obtain ⟨cc, hcc⟩ : ∃ r, alc Ws = r := ⟨_, rfl⟩
    rw [hcc] at q1
    have HCC := Lib.hid hcc
    have bS := b1.set2 0 1 (.bool false) (.string (mg cc)) (by simp) (by simp)
    have s0 := bS.at 0 _ rfl
    have s1 := bS.at 1 _ rfl
    have HBY := Lib.hid (belowSet (belowSet HB2.out (b := p) (o := 0) (.bool false) (by omega)) (b := p) (o := 1) (.string (mg cc)) (by omega))
    have hmn : (m : Int) < n := by omega
    have hn0 : (0 : Int) < n := by omega
    clear hb2 hrw k3 b1 bS hlr hG0 hr0 hcc
    go_wp2
    refine bodyPost_ret (v := .tuple #[.agg #[.bool false, .string (mg cc)], .int .i64 0]) (by simp [results, Tryd.results12, go_sem, s0, s1]) rfl ?_
    unfold CsP
    exact ⟨fun h => absurd HL0.out h, fun _ => ⟨Ws, rfl, by rw [HCC.out]⟩, HBY.out⟩
end
end Go.Proofs.Gv
