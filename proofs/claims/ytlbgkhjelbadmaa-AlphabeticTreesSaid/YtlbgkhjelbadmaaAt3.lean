/- The references of chapter 40: Lengths, Cost, Table, Monotone. -/
import Derived.Test.YtlbgkhjelbadmaaAt2
import Derived.Maps.AppendAt
set_option linter.unusedSimpArgs false
set_option linter.unusedVariables false
namespace Go.Proofs.Gv
open Go Go.RowKit Go.Maps

/-- What Monotone answers. -/
def MnP (L : List (Bool × ByteArray)) (w : World) (e : Ending) (w' : World) : Prop :=
  (chkW L ≠ 0 → e = .returned (.tuple #[.bool false, .int .i64 (chkW L)])) ∧ (chkW L = 0 → ∃ Ws, L = VL Ws ∧ e = .returned (.tuple #[.bool (upB Ws || dnB Ws), .int .i64 0])) ∧ Below w.heap.size w w'
/-- L is a row of slices, each of which reads as a row of integers. -/
structure RwI (W : World) (skip : Option Nat) (L : List Value) (ms : List (List Nat)) : Prop where
  len : L.length = ms.length
  row : ∀ (i : Nat) (ns : List Nat), ms[i]? = some ns → ∃ g cap, L[i]? = some (.slice (some ⟨g, 0, none⟩) ns.length cap) ∧ ns.length ≤ cap ∧ cap ≤ maxLen ∧ g < W.heap.size ∧ skip ≠ some g ∧ Sl W (some ⟨g, 0, none⟩) (VL ns)
theorem RwI.nil (W : World) (skip : Option Nat) : RwI W skip [] [] := ⟨rfl, fun i ns h => by simp at h⟩
theorem RwI.below {W W' : World} {skip : Option Nat} {L : List Value} {ms : List (List Nat)} (h : RwI W skip L ms) (hb : Below W.heap.size W W') : RwI W' skip L ms := by
  refine ⟨h.len, fun i ns hi => ?_⟩
  obtain ⟨g, cap, h1, h2, h3, h4, h5, h6⟩ := h.row i ns hi
  exact ⟨g, cap, h1, h2, h3, Nat.lt_of_lt_of_le h4 hb.size, h5, h6.below hb⟩
theorem Sl.grown1 {W W' : World} {g : Nat} {row : Option Nat} {L : List (Bool × ByteArray)} (h : Sl W (Option.some ⟨g, 0, none⟩) L) (hg : W.grownBy W' row) (hl : g < W.heap.size) (hne : row ≠ Option.some g) : Sl W' (Option.some ⟨g, 0, none⟩) L := fun i n s hi => by
  obtain ⟨A, e, c0, c1⟩ := h i n s hi
  cases e
  refine ⟨_, rfl, ?_, ?_⟩
  · rw [addr0] at c0 ⊢
    exact (World.cell?_of_block (hg.block g hl (fun e => hne e.symm))).trans c0
  · rw [addr0] at c1 ⊢
    exact (World.cell?_of_block (hg.block g hl (fun e => hne e.symm))).trans c1
theorem RwI.app {W W' : World} {skip skip' : Option Nat} {L : List Value} {ms : List (List Nat)} {ns : List Nat} {g cap : Nat} (h : RwI W skip L ms) (hg : W.grownBy W' skip) (hat : skip' = skip ∨ skip' = some W.heap.size) (h1 : ns.length ≤ cap) (h1m : cap ≤ maxLen) (h2 : g < W.heap.size) (h3 : skip ≠ some g)
    (h4 : Sl W (some ⟨g, 0, none⟩) (VL ns)) : RwI W' skip' (L ++ [.slice (some ⟨g, 0, none⟩) ns.length cap]) (ms ++ [ns]) := by
  have hs : ∀ k, k < W.heap.size → skip ≠ some k → skip' ≠ some k := fun k hk hne e => by
    rcases hat with h | h
    · exact hne (h ▸ e)
    · rw [h] at e
      have : W.heap.size = k := by simpa using e
      omega
  refine ⟨by simp [h.len], fun i m hi => ?_⟩
  by_cases hil : i < ms.length
  · rw [List.getElem?_append_left hil] at hi
    obtain ⟨g', cap', a1, a2, a3, a4, a5, a6⟩ := h.row i m hi
    exact ⟨g', cap', by rw [List.getElem?_append_left (by rw [h.len]; exact hil)]; exact a1, a2, a3, Nat.lt_of_lt_of_le a4 hg.size, hs g' a4 a5, a6.grown1 hg a4 a5⟩
  · have hlt := (List.getElem?_eq_some_iff.1 hi).1
    simp at hlt
    obtain rfl : i = ms.length := by omega
    simp at hi
    subst hi
    exact ⟨g, cap, by rw [← h.len]; simp, h1, h1m, Nat.lt_of_lt_of_le h2 hg.size, hs g h2 h3, h4.grown1 hg h2 h3⟩
theorem RwI.rws {W : World} {skip : Option Nat} {L : List Value} {Ws : List Nat} {n g c : Nat} (h : RwI W skip L ((List.range n).map (tabR Ws))) (hn : Ws.length = n) (ho : OwnAt W g L) (hc : n ≤ c) (hm : c ≤ maxLen) : RwS W (.slice (some ⟨g, 0, none⟩) n c) (tabM Ws) := by
  refine ⟨_, c, by rw [tabM_len, hn], by rw [tabM_len, hn]; exact hc, hm, fun i row hi => ?_⟩
  have hil : i < Ws.length := by have := (List.getElem?_eq_some_iff.1 hi).1; rwa [tabM_len] at this
  rw [tabM_at hil] at hi
  obtain rfl := Option.some.inj hi
  obtain ⟨g', cap', a1, a2, a3, a4, a5, a6⟩ := h.row i (tabR Ws i) (by rw [List.getElem?_map, List.getElem?_range (by omega)]; rfl)
  refine ⟨_, cap', ?_, ?_, a3, a6⟩
  · rw [addr0, VL_len]; exact ho.at a1
  · rw [VL_len]; exact a2
section
variable (a : Option Addr) (cap : Nat) (L : List (Bool × ByteArray)) (hc : L.length ≤ cap) (hcm : cap ≤ maxLen) (hz : ∀ x ∈ L, x.2.size ≤ 8) (w : World) (hS : Sl w a L)
include hc hcm hz hS
set_option maxRecDepth 100000 in
set_option maxHeartbeats 1600000 in
theorem rLengths_al : Calls Try.prog 29 #[.slice a L.length cap] w (LnP L w) := by
  have HCK := Lib.hid (rcheckA_any a cap L w (Nat.le_trans hc hcm) (fun x hx => Nat.le_trans (hz x hx) (by decide)) hS)
  by_cases h0 : ¬ chkW L = 0
  · obtain ⟨E, hE⟩ : ∃ E, chkW L = E := ⟨_, rfl⟩
    have HE := Lib.hid hE
    rw [hE] at HCK h0
    have hne : (E != 0) = true := by simpa using h0
    have HN := Lib.hid h0
    clear h0 hE hS hz
    go_enter Try.func29, Try.ntmps29
    go_wp2_with fail
    refine HCK.out.mono ?_
    rintro e w1 ⟨rfl, hb⟩
    go_wp2
    go_ret2
    unfold LnP
    rw [HE.out]
    exact ⟨fun _ => rfl, fun h => absurd h HN.out, hb⟩
  · have h0 := Decidable.not_not.1 h0
    obtain ⟨h2, h64, Ws, hWs⟩ := chkW_ok h0
    obtain rfl : L = VL Ws := hWs
    have HL0 := Lib.hid h0
    rw [h0] at HCK
    obtain ⟨A, rfl⟩ := hS.some (by omega)
    rw [VL_len] at hc h2 h64 HCK ⊢
    have HTB := Lib.hid (fun W (hb : Below w.heap.size w W) => rcost_any Ws.length A cap Ws (Nat.le_refl _) (by omega) h64 hc hcm (VLlt hz) W (hS.below hb))
    clear h0 hS hz
    go_enter Try.func29, Try.ntmps29
    go_wp2_with fail
    refine HCK.out.mono ?_
    rintro e w1 ⟨rfl, hb⟩
    have HB := Lib.hid hb
    have HT1 := Lib.hid (HTB.out w1 hb)
    clear hb
    go_wp2_with fail
    refine HT1.out.mono ?_
    intro e w2 hq
    obtain ⟨v, rfl, hr, hb2⟩ := hq
    obtain ⟨ca, hca⟩ : ∃ c, alc Ws = c := ⟨_, rfl⟩
    rw [hca]
    have hal : Below w2.heap.size w2 (w2.alloc (.cells #[.bool false, .string (mg ca)] 37)) := (Below.refl _ _).alloc (Nat.le_refl _) _
    have HR := Lib.hid (hr.below hal)
    have HB2 := Lib.hid (bstep HB.out (hb2.trans (hal.mono hb2.size)))
    clear hr hb2 hca hal
    go_wp2
    go_ret2
    unfold LnP
    exact ⟨fun h => absurd HL0.out h, fun _ => ⟨Ws, v, rfl, rfl, HR.out⟩, HB2.out⟩
set_option maxRecDepth 100000 in
set_option maxHeartbeats 1600000 in
theorem rCost_al : Calls Try.prog 30 #[.slice a L.length cap] w (CsP L w) := by
  have HCK := Lib.hid (fun W (hb : Below w.heap.size w W) => rcheckA_any a cap L W (Nat.le_trans hc hcm) (fun x hx => Nat.le_trans (hz x hx) (by decide)) (hS.below hb))
  have hb1 : Below w.heap.size w (w.alloc (.cells #[.bool false, .string ⟨#[]⟩] 37)) := (Below.refl _ _).alloc (Nat.le_refl _) _
  have bR := BC.new w w.heap.size #[.bool false, .string ⟨#[]⟩] 37 rfl
  obtain ⟨p, hp⟩ : ∃ p, w.heap.size = p := ⟨_, rfl⟩
  obtain ⟨X, hX⟩ : ∃ X, w.alloc (.cells #[.bool false, .string ⟨#[]⟩] 37) = X := ⟨_, rfl⟩
  rw [hX] at hb1 bR
  rw [hp] at bR
  have HBX := Lib.hid hb1
  have HBR := Lib.hid bR
  have HC1 := Lib.hid (HCK.out X hb1)
  clear hb1 bR
  by_cases h0 : ¬ chkW L = 0
  · obtain ⟨E, hE⟩ : ∃ E, chkW L = E := ⟨_, rfl⟩
    have HE := Lib.hid hE
    rw [hE] at HC1 h0
    have hne : (E != 0) = true := by simpa using h0
    have HN := Lib.hid h0
    clear h0 hE hS hz
    go_enter Try.func30, Try.ntmps30
    go_wp2_with fail
    refine HC1.out.mono ?_
    rintro e w1 ⟨rfl, hb⟩
    have HB := Lib.hid (bstep HBX.out hb)
    have b1 := HBR.out.below hb
    have t0 := b1.at 0 _ rfl
    have t1 := b1.at 1 _ rfl
    have z0 := b1.z 0 (by simp)
    have z1 := b1.z 1 (by simp)
    have bS := b1.set2 0 1 (.bool false) (.string ⟨#[]⟩) (by simp) (by simp)
    have s0 := bS.at 0 _ rfl
    have s1 := bS.at 1 _ rfl
    have HBY := Lib.hid (belowSet (belowSet HB.out (b := p) (o := 0) (.bool false) (by omega)) (b := p) (o := 1) (.string ⟨#[]⟩) (by omega))
    clear hb b1 bS
    go_wp2
    refine bodyPost_ret (v := .tuple #[.agg #[.bool false, .string ⟨#[]⟩], .int .i64 E]) (by simp [results, Try.results30, go_sem, s0, s1]) rfl ?_
    unfold CsP
    rw [HE.out]
    exact ⟨fun _ => rfl, fun h => absurd h HN.out, HBY.out⟩
  · have h0 := Decidable.not_not.1 h0
    obtain ⟨h2, h64, Ws, hWs⟩ := chkW_ok h0
    obtain rfl : L = VL Ws := hWs
    have HL0 := Lib.hid h0
    rw [h0] at HC1
    obtain ⟨A, rfl⟩ := hS.some (by omega)
    rw [VL_len] at hc h2 h64 HC1 ⊢
    have HTB := Lib.hid (fun W (hb : Below w.heap.size w W) => rcost_any Ws.length A cap Ws (Nat.le_refl _) (by omega) h64 hc hcm (VLlt hz) W (hS.below hb))
    clear h0 hS hz
    go_enter Try.func30, Try.ntmps30
    go_wp2_with fail
    refine HC1.out.mono ?_
    rintro e w1 ⟨rfl, hb⟩
    have HB := Lib.hid (bstep HBX.out hb)
    have HBR1 := Lib.hid (HBR.out.below hb)
    have HT1 := Lib.hid (HTB.out w1 HB.out)
    clear hb
    go_wp2_with fail
    refine HT1.out.mono ?_
    intro e w2 hq
    obtain ⟨v, rfl, -, hb2⟩ := hq
    obtain ⟨cc, hcc⟩ : ∃ c, alc Ws = c := ⟨_, rfl⟩
    rw [hcc]
    have HCC := Lib.hid hcc
    have hal : Below w2.heap.size w2 (w2.alloc (.cells #[.bool false, .string (mg cc)] 37)) := (Below.refl _ _).alloc (Nat.le_refl _) _
    have HT9 := Lib.hid (BC.new w2 w2.heap.size #[.bool false, .string (mg cc)] 37 rfl)
    have hst := hb2.trans (hal.mono hb2.size)
    have HB2 := Lib.hid (bstep HB.out hst)
    have HBR2 := Lib.hid (HBR1.out.below hst)
    obtain ⟨Q9, hQ9⟩ : ∃ q, w2.heap.size = q := ⟨_, rfl⟩
    rw [hQ9] at HT9
    obtain ⟨X3, hX3⟩ : ∃ X, w2.alloc (.cells #[.bool false, .string (mg cc)] 37) = X := ⟨_, rfl⟩
    rw [hX3] at HT9 HB2 HBR2
    have b1 := HBR2.out
    have t0 := b1.at 0 _ rfl
    have t1 := b1.at 1 _ rfl
    have z0 := b1.z 0 (by simp)
    have z1 := b1.z 1 (by simp)
    have q0 := HT9.out.at 0 _ rfl
    have q1 := HT9.out.at 1 _ rfl
    have bS := b1.set2 0 1 (.bool false) (.string (mg cc)) (by simp) (by simp)
    have s0 := bS.at 0 _ rfl
    have s1 := bS.at 1 _ rfl
    have HBY := Lib.hid (belowSet (belowSet HB2.out (b := p) (o := 0) (.bool false) (by omega)) (b := p) (o := 1) (.string (mg cc)) (by omega))
    clear hb2 hst hal b1 bS hcc
    go_wp2
    refine bodyPost_ret (v := .tuple #[.agg #[.bool false, .string (mg cc)], .int .i64 0]) (by simp [results, Try.results30, go_sem, s0, s1]) rfl ?_
    unfold CsP
    exact ⟨fun h => absurd HL0.out h, fun _ => ⟨Ws, rfl, by rw [HCC.out]⟩, HBY.out⟩
set_option maxRecDepth 100000 in
set_option maxHeartbeats 1600000 in
theorem rMono_al : Calls Try.prog 33 #[.slice a L.length cap] w (MnP L w) := by
  by_cases h0 : ¬ chkW L = 0
  · have HCK := Lib.hid (rcheckA_any a cap L w (Nat.le_trans hc hcm) (fun x hx => Nat.le_trans (hz x hx) (by decide)) hS)
    obtain ⟨E, hE⟩ : ∃ E, chkW L = E := ⟨_, rfl⟩
    have HE := Lib.hid hE
    rw [hE] at HCK h0
    have hne : (E != 0) = true := by simpa using h0
    have HN := Lib.hid h0
    clear h0 hE hS hz
    go_enter Try.func33, Try.ntmps33
    go_wp2_with fail
    refine HCK.out.mono ?_
    rintro e w1 ⟨rfl, hb⟩
    go_wp2
    go_ret2
    unfold MnP
    rw [HE.out]
    exact ⟨fun _ => rfl, fun h => absurd h HN.out, hb⟩
  · have h0 := Decidable.not_not.1 h0
    obtain ⟨h2, h64, Ws, hWs⟩ := chkW_ok h0
    obtain rfl : L = VL Ws := hWs
    obtain ⟨A, rfl⟩ := hS.some (by omega)
    rw [VL_len] at hc h2 h64 ⊢
    refine (rmono_ok A cap Ws h2 h64 (VLlt hz) w hS).mono ?_
    rintro e w' ⟨rfl, hb⟩
    exact ⟨fun h => absurd h0 h, fun _ => ⟨Ws, rfl, rfl⟩, hb⟩
set_option maxRecDepth 100000 in
set_option maxHeartbeats 1600000 in
theorem Mono_al : Calls Try.prog 32 #[.slice a L.length cap] w (MnP L w) := by
  by_cases h0 : ¬ chkW L = 0
  · have HCK := Lib.hid (checkA_any a cap L w (Nat.le_trans hc hcm) (fun x hx => Nat.le_trans (hz x hx) (by decide)) hS)
    obtain ⟨E, hE⟩ : ∃ E, chkW L = E := ⟨_, rfl⟩
    have HE := Lib.hid hE
    rw [hE] at HCK h0
    have hne : (E != 0) = true := by simpa using h0
    have HN := Lib.hid h0
    clear h0 hE hS hz
    go_enter Try.func32, Try.ntmps32
    go_wp2_with fail
    refine HCK.out.mono ?_
    rintro e w1 ⟨rfl, hb⟩
    go_wp2
    go_ret2
    unfold MnP
    rw [HE.out]
    exact ⟨fun _ => rfl, fun h => absurd h HN.out, hb⟩
  · have h0 := Decidable.not_not.1 h0
    obtain ⟨h2, h64, Ws, hWs⟩ := chkW_ok h0
    obtain rfl : L = VL Ws := hWs
    obtain ⟨A, rfl⟩ := hS.some (by omega)
    rw [VL_len] at hc h2 h64 ⊢
    refine (mono_ok A cap Ws h2 h64 (VLlt hz) w hS).mono ?_
    rintro e w' ⟨rfl, hb⟩
    exact ⟨fun h => absurd h0 h, fun _ => ⟨Ws, rfl, rfl⟩, hb⟩
end
end Go.Proofs.Gv
