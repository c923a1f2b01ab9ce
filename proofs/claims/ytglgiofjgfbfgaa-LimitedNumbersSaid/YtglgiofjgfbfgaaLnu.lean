/- The law LimitedNumbers. -/
import Derived.Test.YtglgiofjgfbfgaaMpnP
import Derived.Test.YtglgiofjgfbfgaaMln
import Derived.Test.YtglgiofjgfbfgaaLpc
import Derived.Test.YtglgiofjgfbfgaaLawP
import Derived.Test.YtglgiofjgfbfgaaHsl
set_option linter.unusedSimpArgs false
set_option linter.unusedVariables false
namespace Go.Proofs.Gv
open Go Go.RowKit Go.Maps

/-- Sizes that are too great. -/
def gr39 (L : List (Bool × ByteArray)) (m : Int) : Bool := grS L || ((decide (6 < L.length) && decide (L.length ≤ 64)) || (decide (8 < m) && decide (m ≤ 64)))
set_option maxRecDepth 100000 in
set_option maxHeartbeats 1600000 in
theorem rGreat39_any (cap : Nat) (a : Option Addr) (L : List (Bool × ByteArray)) (m : Int) (hL : L.length ≤ maxLen) (hz : ∀ x ∈ L, x.2.size ≤ maxLen) (hm : (Lit.int .i64 m).wf = true) (w : World) (h : Sl w a L) :
    Calls Try.prog 23 #[.slice a L.length cap, .int .i64 m] w fun e w' => e = .returned (.bool (gr39 L m)) ∧ Below w.heap.size w w' := by
  have HG := Lib.hid (greatS_any a cap L w hL hz h)
  unfold maxLen at hL
  obtain ⟨b, hb⟩ : ∃ b, grS L = b := ⟨_, rfl⟩
  obtain ⟨n, hn⟩ : ∃ n, L.length = n := ⟨_, rfl⟩
  have HE := Lib.hid (show gr39 L m = (b || ((decide (6 < n) && decide (n ≤ 64)) || (decide (8 < m) && decide (m ≤ 64)))) from by unfold gr39; rw [hb, hn])
  obtain ⟨r, hr⟩ : ∃ r, gr39 L m = r := ⟨_, rfl⟩
  rw [hr] at HE ⊢
  rw [hb, hn] at HG
  rw [hn] at hL ⊢
  clear hb hn hz h hr
  go_enter Try.func23, Try.ntmps23
  go_wp2_with fail
  refine HG.out.mono ?_
  rintro e w1 ⟨rfl, rfl⟩
  have hres : ∀ q, (b = true ∧ q = true ∨ b = false ∧ q = ((decide (6 < n) && decide (n ≤ 64)) || (decide (8 < m) && decide (m ≤ 64)))) → q = r := fun q h => by
    rw [HE.out]; rcases h with ⟨rfl, rfl⟩ | ⟨rfl, rfl⟩ <;> simp
  have HR := Lib.hid hres
  clear hres
  cases b with
  | true =>
    go_wp2
    go_ret
    exact ⟨by rw [← HR.out true (.inl ⟨trivial, rfl⟩)]; rfl, Below.refl _ _⟩
  | false =>
    by_cases h6 : 6 < n
    · have h6I : (6 : Int) < (n : Int) := by omega
      by_cases h64 : n ≤ 64
      · have h64I : (n : Int) ≤ 64 := by omega
        go_wp2
        go_ret
        exact ⟨by rw [← HR.out true (.inr ⟨trivial, by simp [h6, h64]⟩)]; rfl, Below.refl _ _⟩
      · have h64I : ¬ (n : Int) ≤ 64 := by omega
        have h64B : decide ((n : Int) ≤ 64) = false := by simp; omega
        by_cases h8 : 8 < m
        · by_cases hm64 : m ≤ 64
          · go_wp2
            go_ret
            exact ⟨by rw [← HR.out true (.inr ⟨trivial, by simp [h8, hm64]⟩)]; rfl, Below.refl _ _⟩
          · have hmB : decide (m ≤ 64) = false := by simpa using hm64
            go_wp2
            go_ret
            exact ⟨by rw [← HR.out false (.inr ⟨trivial, by simp [h64]; omega⟩)]; rfl, Below.refl _ _⟩
        · have hmB : decide (8 < m) = false := by simpa using h8
          go_wp2
          go_ret
          exact ⟨by rw [← HR.out false (.inr ⟨trivial, by simp [h64]; omega⟩)]; rfl, Below.refl _ _⟩
    · have h6I : ¬ (6 : Int) < (n : Int) := by omega
      have h6B : decide ((6 : Int) < (n : Int)) = false := by simp; omega
      by_cases h8 : 8 < m
      · by_cases hm64 : m ≤ 64
        · go_wp2
          go_ret
          exact ⟨by rw [← HR.out true (.inr ⟨trivial, by simp [h8, hm64]⟩)]; rfl, Below.refl _ _⟩
        · have hmB : decide (m ≤ 64) = false := by simpa using hm64
          go_wp2
          go_ret
          exact ⟨by rw [← HR.out false (.inr ⟨trivial, by simp [h6]; omega⟩)]; rfl, Below.refl _ _⟩
      · have hmB : decide (8 < m) = false := by simpa using h8
        go_wp2
        go_ret
        exact ⟨by rw [← HR.out false (.inr ⟨trivial, by simp [h6]; omega⟩)]; rfl, Below.refl _ _⟩
theorem grS_false39 {L : List (Bool × ByteArray)} (h : grS L = false) : (∀ x ∈ L, x.2.size ≤ 8) ∧ L.length ≤ 67 := by
  unfold grS at h
  simp only [Bool.or_eq_false_iff, Bool.and_eq_false_iff, decide_eq_false_iff_not] at h
  obtain ⟨h1, h2, h3⟩ := h
  refine ⟨fun x hx => ?_, by omega⟩
  unfold grB at h1
  rw [List.any_eq_false] at h1
  have := h1 x hx
  simpa using this
/-- Lengths, or none. -/
def LnV (L : List (Bool × ByteArray)) (m : Int) (v : Value) (W : World) : Prop :=
  (limE L m ≠ 0 ∧ v = .slice none 0 0) ∨ (limE L m = 0 ∧ ∃ Ws g, L = VL Ws ∧ v = .slice (some ⟨g, 0, none⟩) Ws.length Ws.length ∧ BC W g (natV (limL Ws m.toNat)))
theorem LnV.below {L : List (Bool × ByteArray)} {m : Int} {v : Value} {W W' : World} (h : LnV L m v W) (hb : Below W.heap.size W W') : LnV L m v W' := by
  rcases h with h | ⟨h0, Ws, g, h1, h2, h3⟩
  · exact .inl h
  · exact .inr ⟨h0, Ws, g, h1, h2, h3.below hb⟩
theorem LnV.of {L : List (Bool × ByteArray)} {m : Int} {w w' : World} {e : Ending} (h : LLn L m w e w') : ∃ v, e = .returned (.tuple #[v, .int .i64 (limE L m)]) ∧ LnV L m v w' ∧ Below w.heap.size w w' := by
  obtain ⟨h1, h2, h3⟩ := h
  by_cases h0 : limE L m = 0
  · obtain ⟨Ws, g, e1, e2, e3⟩ := h2 h0
    exact ⟨_, by rw [h0]; exact e2, .inr ⟨h0, Ws, g, e1, rfl, e3⟩, h3⟩
  · exact ⟨_, h1 h0, .inl ⟨h0, rfl⟩, h3⟩
/-- Rows of two numbers, or none. -/
def PkV (L : List (Bool × ByteArray)) (m : Int) (v : Value) (W : World) : Prop :=
  (limE L m ≠ 0 ∧ v = .slice none 0 0) ∨ (limE L m = 0 ∧ ∃ Ws g c, L = VL Ws ∧ v = .slice (some ⟨g, 0, none⟩) m.toNat c ∧ PkR W g (tkI (auL Ws) m.toNat (2 * Ws.length - 2)))
theorem PkV.below {L : List (Bool × ByteArray)} {m : Int} {v : Value} {W W' : World} (h : PkV L m v W) (hb : Below W.heap.size W W') : PkV L m v W' := by
  rcases h with h | ⟨h0, Ws, g, c, h1, h2, h3⟩
  · exact .inl h
  · exact .inr ⟨h0, Ws, g, c, h1, h2, h3.belowM hb⟩
theorem PkV.of {L : List (Bool × ByteArray)} {m : Int} {w w' : World} {e : Ending} (h : PkP L m w e w') : ∃ v, e = .returned (.tuple #[v, .int .i64 (limE L m)]) ∧ PkV L m v w' ∧ Below w.heap.size w w' := by
  obtain ⟨h1, h2, h3⟩ := h
  by_cases h0 : limE L m = 0
  · obtain ⟨Ws, g, c, e1, e2, -, -, e3⟩ := h2 h0
    exact ⟨_, by rw [h0]; exact e2, .inr ⟨h0, Ws, g, c, e1, rfl, e3⟩, h3⟩
  · exact ⟨_, h1 h0, .inl ⟨h0, rfl⟩, h3⟩
theorem LCs.ex {L : List (Bool × ByteArray)} {m : Int} : ∃ s, ∀ w e w', LCs L m w e w' → e = .returned (.tuple #[.agg #[.bool false, .string s], .int .i64 (limE L m)]) ∧ Below w.heap.size w w' := by
  by_cases h0 : limE L m = 0
  · obtain ⟨hck, k, rfl, -⟩ := limE_ok h0
    obtain ⟨-, -, Ws, rfl⟩ := chkW_ok hck
    refine ⟨mg (limC Ws (Int.toNat (k : Int))), fun w e w' ⟨_, h2, h3⟩ => ?_⟩
    obtain ⟨Us, e1, e2⟩ := h2 h0
    obtain rfl := VLinj9 e1
    rw [h0]
    exact ⟨e2, h3⟩
  · exact ⟨⟨#[]⟩, fun w e w' ⟨h1, _, h3⟩ => ⟨h1 h0, h3⟩⟩
theorem LPn.ex {L : List (Bool × ByteArray)} {m : Int} : ∃ b s, ∀ w e w', LPn L m w e w' → e = .returned (.tuple #[.agg #[.bool b, .string s], .int .i64 (limE L m)]) ∧ Below w.heap.size w w' := by
  by_cases h0 : limE L m = 0
  · obtain ⟨hck, k, rfl, -⟩ := limE_ok h0
    obtain ⟨-, -, Ws, rfl⟩ := chkW_ok hck
    refine ⟨sgn ((limC Ws (Int.toNat (k : Int)) : Int) - (hufC Ws : Int)), mg ((limC Ws (Int.toNat (k : Int)) : Int) - (hufC Ws : Int)).natAbs, fun w e w' ⟨_, h2, h3⟩ => ?_⟩
    obtain ⟨Us, e1, e2⟩ := h2 h0
    obtain rfl := VLinj9 e1
    rw [h0]
    exact ⟨e2, h3⟩
  · exact ⟨false, ⟨#[]⟩, fun w e w' ⟨h1, _, h3⟩ => ⟨h1 h0, h3⟩⟩
theorem eqNil_any (w : World) : Calls Try.prog 16 #[.slice none 0 0, .slice none 0 0] w fun e w' => e = .returned (.bool true) ∧ Below w.heap.size w w' := by
  go_enter Try.func16, Try.ntmps16
  go_wp2_with fail
  go_loopg [13] 1 (fun gg v13 wr => v13 = .int .i64 0 ∧ wr = w)
  case atStart => exact ⟨rfl, rfl⟩
  case round =>
    obtain ⟨rfl, rfl⟩ := hrel
    go_wp2
    go_ret
    exact ⟨rfl, Below.refl _ _⟩
theorem eqLn_any {L : List (Bool × ByteArray)} {m : Int} {u v : Value} {W : World} (hu : LnV L m u W) (hv : LnV L m v W) :
    Calls Try.prog 16 #[u, v] W fun e w' => e = .returned (.bool true) ∧ Below W.heap.size W w' := by
  rcases hu with ⟨h0, rfl⟩ | ⟨h0, Ws, g, rfl, rfl, hg⟩
  · rcases hv with ⟨-, rfl⟩ | ⟨h, -⟩
    · exact eqNil_any W
    · exact absurd h h0
  · rcases hv with ⟨h, -⟩ | ⟨-, Us, p, e1, rfl, hp⟩
    · exact absurd h0 h
    · obtain rfl := VLinj9 e1
      obtain ⟨hck, -⟩ := limE_ok h0
      obtain ⟨h2, h64, -⟩ := chkW_ok hck
      rw [VL_len] at h64
      have hl : (limL Ws m.toNat).length = Ws.length := by unfold limL; rw [putA_len, List.length_replicate]
      have key : ∀ (q : Nat), BC W q (natV (limL Ws m.toNat)) → ∀ j, j < Ws.length → W.cell? ⟨q, 0 + j, none⟩ = some (.int .i64 (((limL Ws m.toNat).map fun (k : Nat) => (k : Int)).getD j 0)) := fun q hq j hj => by
        rw [Nat.zero_add]
        have hjl : j < (limL Ws m.toNat).length := by rw [hl]; exact hj
        rw [hq.at j (.int .i64 ((limL Ws m.toNat)[j] : Nat)) (by unfold natV; rw [List.getElem?_map, List.getElem?_eq_getElem hjl]; rfl), List.getD_eq_getElem?_getD, List.getElem?_map, List.getElem?_eq_getElem hjl]
        rfl
      refine (Try.slices_Equal_int g 0 Ws.length Ws.length p 0 Ws.length Ws.length ((limL Ws m.toNat).map fun (k : Nat) => (k : Int)) ((limL Ws m.toNat).map fun (k : Nat) => (k : Int)) W (by rw [List.length_map, hl]; exact Nat.le_refl _) (by rw [List.length_map, hl]; exact Nat.le_refl _) (by omega) (by omega) (fun j hj => key g hg j (by rw [List.length_map, hl] at hj; exact hj)) (fun j hj => key p hp j (by rw [List.length_map, hl] at hj; exact hj))).mono ?_
      rintro e w' ⟨rfl, q, rfl⟩
      refine ⟨by simp, below_drA (Below.refl _ _)⟩
theorem samePk_any {L : List (Bool × ByteArray)} {m : Int} {u v : Value} {W : World} (hu : PkV L m u W) (hv : PkV L m v W) :
    Calls Try.prog 29 #[u, v] W fun e w' => e = .returned (.bool true) ∧ Below W.heap.size W w' := by
  rcases hu with ⟨h0, rfl⟩ | ⟨h0, Ws, g, c, rfl, rfl, hg⟩
  · rcases hv with ⟨-, rfl⟩ | ⟨h, -⟩
    · exact rsame_nil W
    · exact absurd h h0
  · rcases hv with ⟨h, -⟩ | ⟨-, Us, p, d, e1, rfl, hp⟩
    · exact absurd h0 h
    · obtain rfl := VLinj9 e1
      obtain ⟨-, k, rfl, h1, h64, -⟩ := limE_ok h0
      exact rsame_any (Int.toNat (k : Int)) g p c d _ (tkI_len _ _ _) (by rw [Int.toNat_natCast]; exact h64) W hg hp
set_option maxRecDepth 100000 in
set_option maxHeartbeats 8000000 in
theorem law_numbers39 (w : World) (a : Option Addr) (cap : Nat) (L : List (Bool × ByteArray)) (hL : L.length ≤ maxLen) (hz : ∀ x ∈ L, x.2.size ≤ maxLen) (hS : Sl w a L) (ha : a = none → L = [] ∧ cap = 0) (hc : L.length ≤ cap ∧ cap ≤ maxLen) (m : Int) (wm : (Lit.int .i64 m).wf = true) :
    Calls Try.prog 5 #[.slice a L.length cap, .int .i64 m] w fun e w' => e = .returned (.bool true) ∧ Below w.heap.size w w' := by
  have HG := Lib.hid (rGreat39_any cap a L m hL hz wm w hS)
  have HAW := Lib.hid (fun W => awake39_any W)
  by_cases hg : gr39 L m = true
  · rw [hg] at HG
    clear hg hL hz hS ha hc wm
    go_enter Try.func5, Try.ntmps5
    go_wp2_with fail
    refine HG.out.mono ?_
    rintro e w1 ⟨rfl, hb⟩
    go_wp2_with fail
    refine (HAW.out _).mono ?_
    rintro e w9 ⟨rfl, hb2⟩
    go_wp2
    go_ret
    exact ⟨rfl, bstep hb hb2⟩
  have hg0 : gr39 L m = false := by simpa using hg
  rw [hg0] at HG
  have hz8 : ∀ x ∈ L, x.2.size ≤ 8 := by
    unfold gr39 at hg0
    simp only [Bool.or_eq_false_iff] at hg0
    exact (grS_false39 hg0.1).1
  have h12 : L.length ≤ 12 ∨ 64 < L.length := by
    unfold gr39 at hg0
    simp only [Bool.or_eq_false_iff, Bool.and_eq_false_iff, decide_eq_false_iff_not] at hg0
    omega
  obtain ⟨cs, hcs⟩ := LCs.ex (L := L) (m := m)
  obtain ⟨pb, ps, hps⟩ := LPn.ex (L := L) (m := m)
  have H1 := Lib.hid (fun W (hb : Below w.heap.size w W) => (Lengths39_any cap a L m hc.1 hc.2 h12 hz8 wm W (hS.below hb)).mono (fun e w' h => LnV.of h))
  have H2 := Lib.hid (fun W (hb : Below w.heap.size w W) => (rLengths39_any cap a L m hc.1 hc.2 h12 hz8 wm W (hS.below hb)).mono (fun e w' h => LnV.of h))
  have H3 := Lib.hid (fun W (hb : Below w.heap.size w W) => (Cost39_any cap a L m hc.1 hc.2 h12 hz8 wm W (hS.below hb)).mono (fun e w' h => hcs _ _ _ h))
  have H4 := Lib.hid (fun W (hb : Below w.heap.size w W) => (rCost39_any cap a L m hc.1 hc.2 h12 hz8 wm W (hS.below hb)).mono (fun e w' h => hcs _ _ _ h))
  have H5 := Lib.hid (fun W (hb : Below w.heap.size w W) => (Penalty39_any cap a L m hc.1 hc.2 h12 hz8 wm W (hS.below hb)).mono (fun e w' h => hps _ _ _ h))
  have H6 := Lib.hid (fun W (hb : Below w.heap.size w W) => (rPenalty39_any cap a L m hc.1 hc.2 h12 hz8 wm W (hS.below hb)).mono (fun e w' h => hps _ _ _ h))
  have H7 := Lib.hid (fun W (hb : Below w.heap.size w W) => (Packages_any cap a L m hc.1 hc.2 h12 hz8 wm W (hS.below hb)).mono (fun e w' h => PkV.of h))
  have H8 := Lib.hid (fun W (hb : Below w.heap.size w W) => (rPackages_any cap a L m hc.1 hc.2 h12 hz8 wm W (hS.below hb)).mono (fun e w' h => PkV.of h))
  have HEQ := Lib.hid (fun (u v : Value) (W : World) (hu : LnV L m u W) (hv : LnV L m v W) => eqLn_any hu hv)
  have HSP := Lib.hid (fun (u v : Value) (W : World) (hu : PkV L m u W) (hv : PkV L m v W) => samePk_any hu hv)
  obtain ⟨n, hn⟩ : ∃ n, L.length = n := ⟨_, rfl⟩
  obtain ⟨E, hE⟩ : ∃ E, limE L m = E := ⟨_, rfl⟩
  rw [hn] at HG H1 H2 H3 H4 H5 H6 H7 H8 ⊢
  rw [hE] at H1 H2 H3 H4 H5 H6 H7 H8
  clear hg hg0 hL hz hS ha hc wm hz8 h12 hcs hps hn hE
  have heq1 : eqI false cs false cs = true := eqI_iff.2 ⟨rfl, rfl⟩
  have heq2 : eqI pb ps pb ps = true := eqI_iff.2 ⟨rfl, rfl⟩
  have hEE : (E == E) = true := by simp
  go_enter Try.func5, Try.ntmps5
  go_wp2_with fail
  refine HG.out.mono ?_
  rintro e w1 ⟨rfl, hb⟩
  have HB1 := Lib.hid hb
  clear hb HG
  go_wp2_with fail
  refine (H1.out _ HB1.out).mono ?_
  rintro e w2 ⟨v1, rfl, hv1, hb⟩
  have HB2 := Lib.hid (bstep HB1.out hb)
  have HV1 := Lib.hid hv1
  clear hb hv1 H1 HB1
  go_wp2_with fail
  refine (H2.out _ HB2.out).mono ?_
  rintro e w3 ⟨v2, rfl, hv2, hb⟩
  have HB3 := Lib.hid (bstep HB2.out hb)
  have HV13 := Lib.hid (HV1.out.below hb)
  have HV2 := Lib.hid hv2
  clear hb hv2 H2 HB2 HV1
  go_wp2_with fail
  refine (H3.out _ HB3.out).mono ?_
  rintro e w4 ⟨rfl, hb⟩
  have hal : Below w4.heap.size w4 (w4.alloc (.cells #[.bool false, .string cs] 29)) := (Below.refl _ _).alloc (Nat.le_refl _) _
  have HB4 := Lib.hid (bstep (bstep HB3.out hb) hal)
  have HV14 := Lib.hid ((HV13.out.below hb).below hal)
  have HV24 := Lib.hid ((HV2.out.below hb).below hal)
  have HX9 := Lib.hid (BC.new w4 w4.heap.size #[.bool false, .string cs] 29 rfl)
  clear hb hal H3 HB3 HV13 HV2
  go_upto_region 6 with fail
  obtain ⟨b9, hb9⟩ : ∃ b, w4.heap.size = b := ⟨_, rfl⟩
  rw [hb9] at HX9 ⊢
  obtain ⟨X4, hX4⟩ : ∃ X, w4.alloc (.cells #[.bool false, .string cs] 29) = X := ⟨_, rfl⟩
  rw [hX4] at HB4 HV14 HV24 HX9 ⊢
  clear hX4 hb9
  go_wp2_with fail
  refine (H4.out _ HB4.out).mono ?_
  rintro e w5 ⟨rfl, hb⟩
  have hal : Below w5.heap.size w5 (w5.alloc (.cells #[.bool false, .string cs] 29)) := (Below.refl _ _).alloc (Nat.le_refl _) _
  have HB5 := Lib.hid (bstep (bstep HB4.out hb) hal)
  have HV15 := Lib.hid ((HV14.out.below hb).below hal)
  have HV25 := Lib.hid ((HV24.out.below hb).below hal)
  have HX9b := Lib.hid ((HX9.out.below hb).below hal)
  have HX11 := Lib.hid (BC.new w5 w5.heap.size #[.bool false, .string cs] 29 rfl)
  clear hb hal H4 HB4 HV14 HV24 HX9
  go_upto_region 7 with fail
  obtain ⟨b11, hb11⟩ : ∃ b, w5.heap.size = b := ⟨_, rfl⟩
  rw [hb11] at HX11 ⊢
  obtain ⟨X5, hX5⟩ : ∃ X, w5.alloc (.cells #[.bool false, .string cs] 29) = X := ⟨_, rfl⟩
  rw [hX5] at HB5 HV15 HV25 HX9b HX11 ⊢
  clear hX5 hb11
  go_wp2_with fail
  refine (H5.out _ HB5.out).mono ?_
  rintro e w6 ⟨rfl, hb⟩
  have hal : Below w6.heap.size w6 (w6.alloc (.cells #[.bool pb, .string ps] 29)) := (Below.refl _ _).alloc (Nat.le_refl _) _
  have HB6 := Lib.hid (bstep (bstep HB5.out hb) hal)
  have HV16 := Lib.hid ((HV15.out.below hb).below hal)
  have HV26 := Lib.hid ((HV25.out.below hb).below hal)
  have HX9c := Lib.hid ((HX9b.out.below hb).below hal)
  have HX11b := Lib.hid ((HX11.out.below hb).below hal)
  have HX13 := Lib.hid (BC.new w6 w6.heap.size #[.bool pb, .string ps] 29 rfl)
  clear hb hal H5 HB5 HV15 HV25 HX9b HX11
  go_upto_region 8 with fail
  obtain ⟨b13, hb13⟩ : ∃ b, w6.heap.size = b := ⟨_, rfl⟩
  rw [hb13] at HX13 ⊢
  obtain ⟨X6, hX6⟩ : ∃ X, w6.alloc (.cells #[.bool pb, .string ps] 29) = X := ⟨_, rfl⟩
  rw [hX6] at HB6 HV16 HV26 HX9c HX11b HX13 ⊢
  clear hX6 hb13
  go_wp2_with fail
  refine (H6.out _ HB6.out).mono ?_
  rintro e w7 ⟨rfl, hb⟩
  have hal : Below w7.heap.size w7 (w7.alloc (.cells #[.bool pb, .string ps] 29)) := (Below.refl _ _).alloc (Nat.le_refl _) _
  have HB7 := Lib.hid (bstep (bstep HB6.out hb) hal)
  have HV17 := Lib.hid ((HV16.out.below hb).below hal)
  have HV27 := Lib.hid ((HV26.out.below hb).below hal)
  have HX9d := Lib.hid ((HX9c.out.below hb).below hal)
  have HX11c := Lib.hid ((HX11b.out.below hb).below hal)
  have HX13b := Lib.hid ((HX13.out.below hb).below hal)
  have HX15 := Lib.hid (BC.new w7 w7.heap.size #[.bool pb, .string ps] 29 rfl)
  clear hb hal H6 HB6 HV16 HV26 HX9c HX11b HX13
  go_upto_region 9 with fail
  obtain ⟨b15, hb15⟩ : ∃ b, w7.heap.size = b := ⟨_, rfl⟩
  rw [hb15] at HX15 ⊢
  obtain ⟨X7, hX7⟩ : ∃ X, w7.alloc (.cells #[.bool pb, .string ps] 29) = X := ⟨_, rfl⟩
  rw [hX7] at HB7 HV17 HV27 HX9d HX11c HX13b HX15 ⊢
  clear hX7 hb15
  go_wp2_with fail
  refine (H7.out _ HB7.out).mono ?_
  rintro e w8 ⟨v7, rfl, hv7, hb⟩
  have HB8 := Lib.hid (bstep HB7.out hb)
  have HV18 := Lib.hid (HV17.out.below hb)
  have HV28 := Lib.hid (HV27.out.below hb)
  have HX9e := Lib.hid (HX9d.out.below hb)
  have HX11d := Lib.hid (HX11c.out.below hb)
  have HX13c := Lib.hid (HX13b.out.below hb)
  have HX15b := Lib.hid (HX15.out.below hb)
  have HV7 := Lib.hid hv7
  clear hb hv7 H7 HB7 HV17 HV27 HX9d HX11c HX13b HX15
  go_wp2_with fail
  refine (H8.out _ HB8.out).mono ?_
  rintro e w9 ⟨v8, rfl, hv8, hb⟩
  have HB9 := Lib.hid (bstep HB8.out hb)
  have HV19 := Lib.hid (HV18.out.below hb)
  have HV29 := Lib.hid (HV28.out.below hb)
  have HX9f := Lib.hid (HX9e.out.below hb)
  have HX11e := Lib.hid (HX11d.out.below hb)
  have HX13d := Lib.hid (HX13c.out.below hb)
  have HX15c := Lib.hid (HX15b.out.below hb)
  have HV79 := Lib.hid (HV7.out.below hb)
  have HV8 := Lib.hid hv8
  clear hb hv8 H8 HB8 HV18 HV28 HX9e HX11d HX13c HX15b HV7
  go_wp2_with fail
  refine (HEQ.out _ _ _ HV19.out HV29.out).mono ?_
  rintro e w10 ⟨rfl, hb⟩
  have HB10 := Lib.hid (bstep HB9.out hb)
  have HV7a := Lib.hid (HV79.out.below hb)
  have HV8a := Lib.hid (HV8.out.below hb)
  have x0 := (HX9f.out.below hb).at 0 _ rfl
  have x1 := (HX9f.out.below hb).at 1 _ rfl
  have x2 := (HX11e.out.below hb).at 0 _ rfl
  have x3 := (HX11e.out.below hb).at 1 _ rfl
  have x4 := (HX13d.out.below hb).at 0 _ rfl
  have x5 := (HX13d.out.below hb).at 1 _ rfl
  have x6 := (HX15c.out.below hb).at 0 _ rfl
  have x7 := (HX15c.out.below hb).at 1 _ rfl
  clear hb HEQ HB9 HV19 HV29 HX9f HX11e HX13d HX15c HV79 HV8
  go_wp2_with fail
  refine (HSP.out _ _ _ HV7a.out HV8a.out).mono ?_
  rintro e w11 ⟨rfl, hb⟩
  have HB11 := Lib.hid (bstep HB10.out hb)
  clear hb x0 x1 x2 x3 x4 x5 x6 x7 HSP HB10 HV7a HV8a
  go_wp2_with fail
  refine (HAW.out _).mono ?_
  rintro e w12 ⟨rfl, hb⟩
  go_wp2
  go_ret
  exact ⟨rfl, bstep HB11.out hb⟩
end Go.Proofs.Gv
