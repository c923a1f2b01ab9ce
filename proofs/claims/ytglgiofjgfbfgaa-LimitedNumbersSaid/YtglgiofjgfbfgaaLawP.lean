/- limited.Penalty. -/
import Derived.Test.YtglgiofjgfbfgaaLim3P
import Derived.Test.YtglgiofjgfbfgaaHctnP
import Derived.Test.YtglgiofjgfbfgaaBoxesP
import Derived.Test.YtglgiofjgfbfgaaLplP
import Derived.Test.YtglgiofjgfbfgaaHmeqP
import Derived.Test.YtglgiofjgfbfgaaRootIP
import Derived.Test.YtglgiofjgfbfgaaMix
import Derived.Test.YtglgiofjgfbfgaaLln
set_option linter.unusedSimpArgs false
set_option linter.unusedVariables false
namespace Go.Proofs.Gv
open Go Go.RowKit Go.Maps

/-- The cost of Huffman's code. -/
noncomputable def hufC (Ws : List Nat) : Nat := csum Ws (lenH 2 Ws)
/-- What Penalty answers. -/
def LPn (L : List (Bool × ByteArray)) (m : Int) (w : World) (e : Ending) (w' : World) : Prop :=
  (limE L m ≠ 0 → e = .returned (.tuple #[.agg #[.bool false, .string ⟨#[]⟩], .int .i64 (limE L m)])) ∧
  (limE L m = 0 → ∃ Ws, L = VL Ws ∧ e = .returned (.tuple #[.agg #[.bool (sgn ((limC Ws m.toNat : Int) - (hufC Ws : Int))), .string (mg ((limC Ws m.toNat : Int) - (hufC Ws : Int)).natAbs)], .int .i64 0])) ∧ Below w.heap.size w w'
theorem VLinj9 {A B : List Nat} (h : VL A = VL B) : A = B := by
  have key : ∀ l : List Nat, (VL l).map (fun x => bv x.2.data.toList) = l := fun l => by
    unfold VL
    rw [List.map_map]
    refine (List.map_congr_left fun x _ => ?_).trans (List.map_id l)
    exact bv_mg x
  rw [← key A, ← key B, h]
theorem limC_lt {Ws : List Nat} {k : Nat} (h2 : Ws.length ≤ 12) (hk : k ≤ 64) (h : Ws.length ≤ 2 ^ k) (hz : ∀ z ∈ Ws, z < 2 ^ 64) : limC Ws k < 2 ^ 82 := by
  have h1 := tb_le (owL Ws) Ws.length k 1 0 _ (limC_is h)
  have h3 : (owL Ws).sum < 2 ^ 74 := sum_lt (N := 64) (fun z hz2 => by
    obtain ⟨o, ho, rfl⟩ := List.mem_map.1 hz2
    have := ordL_lt ho
    exact hz _ (by rw [List.getD_eq_getElem?_getD, List.getElem?_eq_getElem this]; exact List.getElem_mem _)) (by rw [owL_len]; omega)
  have h4 : k * (owL Ws).sum ≤ 64 * (owL Ws).sum := Nat.mul_le_mul_right _ hk
  have : (2 : Nat) ^ 82 = 256 * 2 ^ 74 := by decide
  omega
theorem lenW_two9 (L : List (Bool × ByteArray)) : lenW 2 L = chkW L := by unfold lenW; rw [if_neg (by decide)]
theorem lenH_pos9 {q : Nat} (hq : 2 ≤ q) {W : List Nat} (h2 : 2 ≤ W.length) : ∀ d ∈ lenH q W, 1 ≤ d := by
  intro d hd
  have hm := merges_ms (q := q) hq (Ws := W) (by omega)
  obtain ⟨-, -, -, a4⟩ := hm.sums hq (List.replicate ((startL q W).length + (mergesH q W).length) 0) (by rw [List.length_replicate]; exact Nat.le_refl _) (rep_zero _)
  obtain ⟨i, hi⟩ := List.getElem?_of_mem hd
  have hil : i < W.length := by have := (List.getElem?_eq_some_iff.1 hi).1; rwa [lenH_len] at this
  rw [lenH_at hil] at hi
  have e : (depH q W).getD i 0 = d := Option.some.inj hi
  rw [← e]
  exact a4 (by rw [startL_cf, startL_len]; omega) i W[i] (startL_at (List.getElem?_eq_getElem hil))
theorem hce9 {Ws : List Nat} (h2 : 2 ≤ Ws.length) (h64 : Ws.length ≤ 64) (hc : chkW (VL Ws) = 0) : costE (VL Ws) ((lenH 2 Ws).map fun (k : Nat) => (k : Int)) = 0 := by
  obtain ⟨-, -, sp3, -, -, sp6⟩ := lenH_spec (q := 2) (Nat.le_refl 2) (W := Ws) (by omega)
  have hml : (mergesH 2 Ws).length ≤ 63 := by
    have h1 := startL_len 2 Ws
    have h2 : padT 2 Ws.length = 0 := by unfold padT; rw [Nat.mod_one]
    omega
  unfold costE
  rw [if_neg (by rw [hc]; simp), if_neg (by rw [List.length_map, lenH_len, VL_len]; simp), if_neg]
  simp only [Bool.not_eq_true, List.any_eq_false, List.mem_map]
  rintro _ ⟨d, hd, rfl⟩
  have h1 := sp3 d hd
  have h2 : 1 ≤ d := lenH_pos9 (Nat.le_refl 2) h2 d hd
  simp [badL]; omega
theorem hufC_lt {Ws : List Nat} (h2 : 2 ≤ Ws.length) (h64 : Ws.length ≤ 64) (hz : ∀ z ∈ Ws, z < 2 ^ 64) : hufC Ws < 2 ^ 136 := by
  obtain ⟨-, -, sp3, -, -, sp6⟩ := lenH_spec (q := 2) (Nat.le_refl 2) (W := Ws) (by omega)
  have hml : (mergesH 2 Ws).length ≤ 63 := by
    have h1 := startL_len 2 Ws
    have h2 : padT 2 Ws.length = 0 := by unfold padT; rw [Nat.mod_one]
    omega
  exact csum_lt (N := 64) (lenH_len 2 Ws) hz (fun d hd => Nat.lt_of_le_of_lt (sp3 d hd) (by omega)) (by omega)
set_option maxRecDepth 100000 in
set_option maxHeartbeats 4000000 in
theorem Penalty39_any (cap : Nat) (a : Option Addr) (L : List (Bool × ByteArray)) (m : Int) (hc : L.length ≤ cap) (hcm : cap ≤ maxLen) (h12 : L.length ≤ 12 ∨ 64 < L.length) (hz : ∀ x ∈ L, x.2.size ≤ 8) (hm : (Lit.int .i64 m).wf = true) (w : World) (hSl : Sl w a L) :
    Calls Try.prog 17 #[.slice a L.length cap, .int .i64 m] w (LPn L m w) := by
  have HCS := Lib.hid (fun W (hb : Below w.heap.size w W) => Cost39_any cap a L m hc hcm h12 hz hm W (hSl.below hb))
  have hb1 : Below w.heap.size w (w.alloc (.cells #[.bool false, .string ⟨#[]⟩] 29)) := (Below.refl _ _).alloc (Nat.le_refl _) _
  have bR := BC.new w w.heap.size #[.bool false, .string ⟨#[]⟩] 29 rfl
  obtain ⟨p, hp⟩ : ∃ p, w.heap.size = p := ⟨_, rfl⟩
  obtain ⟨X, hX⟩ : ∃ X, w.alloc (.cells #[.bool false, .string ⟨#[]⟩] 29) = X := ⟨_, rfl⟩
  rw [hX] at hb1 bR
  rw [hp] at bR
  have HBX := Lib.hid hb1
  have HBR := Lib.hid bR
  have HPP := Lib.hid hp
  have HC1 := Lib.hid (HCS.out X hb1)
  clear hb1 bR
  by_cases h0 : ¬ limE L m = 0
  · obtain ⟨E, hE⟩ : ∃ E, limE L m = E := ⟨_, rfl⟩
    have HE := Lib.hid hE
    unfold LCs at HC1
    rw [hE] at HC1 h0
    have hne : (E != 0) = true := by simpa using h0
    have HN := Lib.hid h0
    clear h0 hE hSl hz
    go_enter Try.func17, Try.ntmps17
    go_wp2_with fail
    refine HC1.out.mono ?_
    rintro e w1 ⟨he, -, hb⟩
    obtain rfl := he HN.out
    have b1 := HBR.out.below hb
    have HB := Lib.hid (bstep HBX.out hb)
    have t0 := b1.at 0 _ rfl
    have t1 := b1.at 1 _ rfl
    have z0 := b1.z 0 (by simp)
    have z1 := b1.z 1 (by simp)
    have hlt : p < w1.heap.size := b1.lt
    have bS := b1.set2 0 1 (.bool false) (.string ⟨#[]⟩) (by simp) (by simp)
    have s0 := bS.at 0 _ rfl
    have s1 := bS.at 1 _ rfl
    have bA := bS.alloc (.cells #[.bool false, .string ⟨#[]⟩] 29)
    have r0 := bA.at 0 _ rfl
    have r1 := bA.at 1 _ rfl
    have hBS := (HB.out.setCell (p := ⟨p, 0, none⟩) (by have := HPP.out; show w.heap.size ≤ p; omega) (.bool false)).setCell (p := ⟨p, 1, none⟩) (by have := HPP.out; show w.heap.size ≤ p; omega) (.string ⟨#[]⟩)
    have HBY := Lib.hid (hBS.alloc hBS.size (.cells #[.bool false, .string ⟨#[]⟩] 29))
    clear hb b1 bS bA hBS he
    go_wp2
    refine bodyPost_ret (v := .tuple #[.agg #[.bool false, .string ⟨#[]⟩], .int .i64 E]) (by simp [results, Try.results17, go_sem, s0, s1, r0, r1, hlt]) rfl ?_
    unfold LPn
    rw [HE.out]
    exact ⟨fun _ => rfl, fun h => absurd h HN.out, HBY.out⟩
  · have h0 := Decidable.not_not.1 h0
    obtain ⟨hck, m, rfl, hk1, hk64, hk2⟩ := limE_ok h0
    obtain ⟨h2, h64, Ws, hWs⟩ := chkW_ok hck
    obtain rfl : L = VL Ws := hWs
    have HL0 := Lib.hid h0
    have HLE := Lib.hid (fun W (hb : Below w.heap.size w W) => Lengths_any 2 cap a (VL Ws) (Nat.le_trans hc hcm) (fun x hx => Nat.le_trans (hz x hx) (by decide)) W (hSl.below hb))
    have HCO := Lib.hid (fun (v : Value) W (hb : Below w.heap.size w W) (hv : RowAt W v (intsV ((lenH 2 Ws).map fun (k : Nat) => (k : Int)))) => Cost_any cap a (VL Ws) v ((lenH 2 Ws).map fun (k : Nat) => (k : Int)) (Nat.le_trans hc hcm) (by rw [List.length_map, lenH_len]; unfold maxLen; rw [VL_len] at h64; omega) (fun x hx => Nat.le_trans (hz x hx) (by decide)) W (hSl.below hb) hv)
    rw [lenW_two9, hck] at HLE
    rw [VL_len] at hc h2 h64 h12 hk2 HC1 HLE HCO ⊢
    rw [hce9 h2 h64 hck] at HCO
    have hcl := limC_lt (Ws := Ws) (k := m) (by omega) hk64 hk2 (VLlt9 hz)
    have hhl := hufC_lt (Ws := Ws) h2 h64 (VLlt9 hz)
    obtain ⟨c1, hc1⟩ : ∃ c, limC Ws m = c := ⟨_, rfl⟩
    obtain ⟨c2, hc2⟩ : ∃ c, hufC Ws = c := ⟨_, rfl⟩
    have HCC := Lib.hid (And.intro hc1 hc2)
    rw [hc1] at hcl
    rw [hc2] at hhl
    have HSB := Lib.hid (fun Y => cSub (VN_rp (N := 82) hcl (by decide)) (VN_rp (N := 136) hhl (by decide)) Y)
    obtain ⟨n, hn⟩ : ∃ n, Ws.length = n := ⟨_, rfl⟩
    have HNN := Lib.hid hn
    rw [hn] at HC1 HLE HCO ⊢
    clear h0 hSl hz hn hc h12 hk2 hck hc1 hc2 hcl hhl h2 h64
    go_enter Try.func17, Try.ntmps17
    go_wp2_with fail
    refine HC1.out.mono ?_
    rintro e w1 ⟨-, he, hb⟩
    obtain ⟨Us, e1, rfl⟩ := he HL0.out
    obtain rfl := VLinj9 e1
    rw [Int.toNat_natCast, HCC.out.1]
    have hal : Below w1.heap.size w1 (w1.alloc (.cells #[.bool false, .string (mg c1)] 29)) := (Below.refl _ _).alloc (Nat.le_refl _) _
    have hst := hb.trans (hal.mono hb.size)
    have HB := Lib.hid (bstep HBX.out hst)
    have HBR3 := Lib.hid (HBR.out.below hst)
    have HB6 := Lib.hid (BC.new w1 w1.heap.size #[.bool false, .string (mg c1)] 29 rfl)
    clear hb hal hst he e1
    go_wp2_with fail
    obtain ⟨b6, hb6⟩ : ∃ b, w1.heap.size = b := ⟨_, rfl⟩
    rw [hb6] at HB6 ⊢
    obtain ⟨X3, hX3⟩ : ∃ X, w1.alloc (.cells #[.bool false, .string (mg c1)] 29) = X := ⟨_, rfl⟩
    rw [hX3] at HB HBR3 HB6 ⊢
    clear hX3 hb6
    refine (HLE.out X3 HB.out).mono ?_
    rintro e w3 ⟨v, rfl, -, hv, hb3⟩
    obtain ⟨q, Us, hq, e2, -, -, -, -, hnu⟩ := hv trivial
    obtain rfl := VLinj9 e2
    obtain rfl : q = 2 := by omega
    obtain ⟨g, cc, rfl, -, -, hcell⟩ := hnu
    have hra : RowAt w3 (.slice (some ⟨g, 0, none⟩) (lenH 2 Ws).length cc) (intsV ((lenH 2 Ws).map fun (k : Nat) => (k : Int))) := by
      rw [intsV_nat]
      refine ⟨some ⟨g, 0, none⟩, cc, by rw [natV_length], fun i x hi => ⟨g, rfl, ?_⟩⟩
      unfold natV at hi
      rw [List.getElem?_map] at hi
      cases hd : (lenH 2 Ws)[i]? with
      | none => rw [hd] at hi; cases hi
      | some d => rw [hd] at hi; cases hi; exact hcell i d hd
    have HB3 := Lib.hid (bstep HB.out hb3)
    have HCX := Lib.hid (HCO.out _ w3 HB3.out hra)
    have HBR4 := Lib.hid (HBR3.out.below hb3)
    have HB64 := Lib.hid (HB6.out.below hb3)
    clear hv hcell hra hb3 e2 hq
    go_wp2_with fail
    refine HCX.out.mono ?_
    rintro e w4 ⟨⟨z, rfl, -, hz⟩, hb4⟩
    obtain ⟨Vs, ds, e3, e4, -, -, -, -, hzz⟩ := hz trivial
    obtain rfl := VLinj9 e3
    have hds : ds = lenH 2 Ws := by
      have h := congrArg (fun l : List Int => l.map Int.toNat) e4
      simp only [List.map_map] at h
      have e : ∀ l : List Nat, (l.map (Int.toNat ∘ fun (k : Nat) => (k : Int))) = l := fun l => (List.map_congr_left fun x _ => Int.toNat_natCast x).trans (List.map_id _)
      rw [e, e] at h
      exact h.symm
    subst hds
    have hzh : z = hufC Ws := hzz
    rw [HCC.out.2] at hzh
    subst hzh
    unfold VN
    have hal : Below w4.heap.size w4 (w4.alloc (.cells #[.bool false, .string (mg z)] 29)) := (Below.refl _ _).alloc (Nat.le_refl _) _
    have hst := hb4.trans (hal.mono hb4.size)
    have HB4 := Lib.hid (bstep HB3.out hst)
    have b1 := HBR4.out.below hst
    have b6c := HB64.out.below hst
    have b9 := BC.new w4 w4.heap.size #[.bool false, .string (mg z)] 29 rfl
    obtain ⟨q9, hq9⟩ : ∃ b, w4.heap.size = b := ⟨_, rfl⟩
    rw [hq9] at b9
    obtain ⟨X4, hX4⟩ : ∃ X, w4.alloc (.cells #[.bool false, .string (mg z)] 29) = X := ⟨_, rfl⟩
    rw [hX4] at HB4 b1 b6c b9
    have c0 := b6c.at 0 _ rfl
    have c1' := b6c.at 1 _ rfl
    have d0 := b9.at 0 _ rfl
    have d1 := b9.at 1 _ rfl
    have HBR5 := Lib.hid b1
    clear hz hzz e3 e4 hal hst hb4 b1 b6c b9
    go_wp2_with fail
    refine (HSB.out _).mono ?_
    rintro e w5 ⟨rfl, hb5⟩
    have b1 := HBR5.out.below hb5
    have HB5 := Lib.hid (bstep HB4.out hb5)
    obtain ⟨sb, hsb⟩ : ∃ s, sgn ((c1 : Int) - (z : Int)) = s := ⟨_, rfl⟩
    obtain ⟨ub, hub⟩ : ∃ s, mg ((c1 : Int) - (z : Int)).natAbs = s := ⟨_, rfl⟩
    have HSU := Lib.hid (And.intro hsb hub)
    rw [hsb, hub]
    have t0 := b1.at 0 _ rfl
    have t1 := b1.at 1 _ rfl
    have z0 := b1.z 0 (by simp)
    have z1 := b1.z 1 (by simp)
    have bS := b1.set2 0 1 (.bool sb) (.string ub) (by simp) (by simp)
    have s0 := bS.at 0 _ rfl
    have s1 := bS.at 1 _ rfl
    have HBY := Lib.hid ((HB5.out.setCell (p := ⟨p, 0, none⟩) (by have := HPP.out; show w.heap.size ≤ p; omega) (.bool sb)).setCell (p := ⟨p, 1, none⟩) (by have := HPP.out; show w.heap.size ≤ p; omega) (.string ub))
    clear hb5 b1 bS c0 c1' d0 d1 hsb hub
    go_wp2
    refine bodyPost_ret (v := .tuple #[.agg #[.bool sb, .string ub], .int .i64 0]) (by simp [results, Try.results17, go_sem, s0, s1]) rfl ?_
    unfold LPn
    refine ⟨fun h => absurd HL0.out h, fun _ => ⟨Ws, rfl, ?_⟩, HBY.out⟩
    rw [Int.toNat_natCast, HCC.out.1, HCC.out.2, HSU.out.1, HSU.out.2]
end Go.Proofs.Gv

namespace Go.Proofs.Gv
open Go Go.RowKit Go.Maps

theorem chkR_VL : ∀ Ws : List Nat, chkR (VL Ws) = 0
  | [] => rfl
  | z :: r => by
    have hc : Canon false (mg z) := by
      have := canon_V (z : Int)
      rwa [Int.natAbs_natCast, show sgn (z : Int) = false from decide_eq_false (by omega)] at this
    have hi : ¬ iv false (mg z) < 0 := by unfold iv; rw [if_neg (by decide)]; omega
    have ih := chkR_VL r
    show chkR ((false, mg z) :: VL r) = 0
    unfold chkR
    rw [if_pos hc, if_neg hi]
    exact ih
theorem VL_inj {A B : List Nat} (h : VL A = VL B) : A = B := by
  have key : ∀ l : List Nat, (VL l).map (fun x => bv x.2.data.toList) = l := fun l => by
    unfold VL
    rw [List.map_map]
    refine (List.map_congr_left fun x _ => ?_).trans (List.map_id l)
    exact bv_mg x
  rw [← key A, ← key B, h]
theorem chkW_VL {Ws : List Nat} (h1 : 2 ≤ Ws.length) (h2 : Ws.length ≤ 64) : chkW (VL Ws) = 0 := by
  have hl : (VL Ws).length = Ws.length := by unfold VL; rw [List.length_map]
  unfold chkW
  rw [hl, if_neg (by omega), if_neg (by omega), chkR_VL]
theorem natV_ints (l : List Nat) : natV l = intsV (l.map fun (k : Nat) => (k : Int)) := (intsV_nat l).symm
theorem Nums.below {W W' W2 : World} {v : Value} {d : List Nat} (h : Nums W W' v d) (hb : Below W'.heap.size W' W2) : Nums W W2 v d := by
  obtain ⟨g, c, rfl, h2, h3, h4⟩ := h
  exact ⟨g, c, rfl, h2, Nat.lt_of_lt_of_le h3 hb.size, fun i k hi => (hb.cell (p := ⟨g, i, none⟩) h3).trans (h4 i k hi)⟩
theorem MrgAt.below {W W' : World} {v : Value} {ps : List (Int × Int)} (h : MrgAt W v ps) (hb : Below W.heap.size W W') : MrgAt W' v ps := by
  obtain ⟨a, c, rfl, hat⟩ := h
  refine ⟨a, c, rfl, fun i x hi => ?_⟩
  obtain ⟨g, rfl, hc⟩ := hat i x hi
  exact ⟨g, rfl, (hb.cell (p := ⟨g, i, none⟩) (World.block_lt_of_cell? W _ hc)).trans hc⟩
theorem eqInt_any {W0 W : World} {g c p c2 n : Nat} {xs ys : List Int} (hx : xs.length = n) (hy : ys.length = n) (hn : n ≤ 1000) (hu : ∀ i x, (intsV xs)[i]? = some x → W.cell? ⟨g, i, none⟩ = some x) (hv : ∀ i x, (intsV ys)[i]? = some x → W.cell? ⟨p, i, none⟩ = some x) :
    Calls Try.prog 16 #[.slice (some ⟨g, 0, none⟩) n c, .slice (some ⟨p, 0, none⟩) n c2] W fun e w' => e = .returned (.bool (xs == ys)) ∧ Below W.heap.size W w' := by
  have key : ∀ (l : List Int) (q : Nat), (∀ i x, (intsV l)[i]? = some x → W.cell? ⟨q, i, none⟩ = some x) → ∀ j, j < l.length → W.cell? ⟨q, 0 + j, none⟩ = some (.int .i64 (l.getD j 0)) := fun l q h j hj => by
    rw [Nat.zero_add]
    refine h j _ ?_
    unfold intsV
    rw [List.getElem?_map, List.getElem?_eq_getElem hj, List.getD_eq_getElem?_getD, List.getElem?_eq_getElem hj]
    rfl
  refine (Try.slices_Equal_int g 0 n c p 0 n c2 xs ys W (by omega) (by omega) (by omega) (by omega) (key xs g hu) (key ys p hv)).mono ?_
  rintro e w' ⟨rfl, q, rfl⟩
  exact ⟨by rw [List.take_of_length_le (by omega), List.take_of_length_le (by omega)], below_drewN (Below.refl _ W)⟩
end Go.Proofs.Gv

namespace Go.Proofs.Gv
open Go Go.RowKit Go.Maps

@[go_sem] theorem run_max4z {P : Program} {w : World} (ts : Array TypeId) (t : TypeId) : (Builtin.max_ ts t #[.int .i64 0, .int .i64 0, .int .i64 0, .int .i64 0]).run P w = .ok (.int .i64 0) w := by
  first
  | rfl
  | simp [Builtin.max_, go_sem]
def E5 : List Nat := [8, 4, 2, 1, 1]
theorem e5a : limL E5 3 = [1, 3, 3, 3, 3] := by decide +kernel
theorem e5b : limL E5 4 = [1, 2, 3, 4, 4] := by decide +kernel
theorem e5c : limC E5 3 = 32 := by decide +kernel
theorem e5d : hufC E5 = 30 := by
  have h1 : lenH 2 E5 = [1, 2, 3, 4, 4] := by decide +kernel
  unfold hufC
  rw [h1]
  decide
theorem e5k : chkW (VL E5) = 0 := chkW_VL (by decide) (by decide)
theorem e5e : limE (VL E5) 3 = 0 := by unfold limE; rw [if_neg (by rw [e5k]; simp), if_neg (by decide), if_neg (by rw [VL_len]; decide)]
theorem e5f : limE (VL E5) 4 = 0 := by unfold limE; rw [if_neg (by rw [e5k]; simp), if_neg (by decide), if_neg (by rw [VL_len]; decide)]
theorem e5z : ∀ x ∈ VL E5, x.2.size ≤ 8 := fun x hx => by
  unfold VL at hx
  obtain ⟨z, hz, rfl⟩ := List.mem_map.1 hx
  have hz4 : z ≤ 8 := by simp [E5] at hz; omega
  exact Nat.le_trans (size_mg (n := z) (k := 1) (by omega)) (by decide)
theorem Sl.of_bc {W : World} {g : Nat} {L : List (Bool × ByteArray)} (h : BC W g (inV L)) : Sl W (Option.some ⟨g, 0, none⟩) L := fun i b s hi => by
  obtain ⟨h0, h1⟩ := inV_at9 L i b s hi
  have hadd : ∀ j, (⟨g, 0, none⟩ : Addr).add j = ⟨g, j, none⟩ := fun j => by unfold Addr.add; split <;> simp_all
  exact ⟨_, rfl, by rw [hadd]; exact h.at _ _ h0, by rw [hadd]; exact h.at _ _ h1⟩
set_option maxRecDepth 100000 in
set_option maxHeartbeats 1600000 in
theorem example39_any (w : World) : Calls Try.prog 43 #[] w fun e w' => ∃ g, e = .returned (.slice (some ⟨g, 0, none⟩) 5 5) ∧ Sl w' (some ⟨g, 0, none⟩) (VL E5) ∧ Below w.heap.size w w' := by
  have HOF := Lib.hid (fun (k : Nat) (hk : k < 1000) W => show Calls Try.prog 12 #[.int .i64 (k : Int)] W fun e w' => e = .returned (.agg #[.bool false, .string (mg k)]) ∧ Below W.heap.size W w' from by
    have := cOf (k : Int) (by omega) (by omega) W
    rwa [Int.natAbs_natCast, show sgn (k : Int) = false from decide_eq_false (by omega)] at this)
  go_enter Try.func43, Try.ntmps43
  go_wp2_with fail
  refine (HOF.out 8 (by decide) _).mono ?_
  rintro e w1 ⟨rfl, hb1⟩
  go_wp2_with fail
  refine (HOF.out 4 (by decide) _).mono ?_
  rintro e w2 ⟨rfl, hb2⟩
  go_wp2_with fail
  refine (HOF.out 2 (by decide) _).mono ?_
  rintro e w3 ⟨rfl, hb3⟩
  go_wp2_with fail
  refine (HOF.out 1 (by decide) _).mono ?_
  rintro e w4 ⟨rfl, hb4⟩
  go_wp2_with fail
  refine (HOF.out 1 (by decide) _).mono ?_
  rintro e w5 ⟨rfl, hb5⟩
  have HB := Lib.hid (bstep (bstep (bstep (bstep hb1 hb2) hb3) hb4) hb5)
  clear hb1 hb2 hb3 hb4 hb5
  go_wp2
  go_ret
  exact ⟨w5.heap.size, rfl, Sl.of_bc (BC.new w5 w5.heap.size #[.bool false, .string (mg 8), .bool false, .string (mg 4), .bool false, .string (mg 2), .bool false, .string (mg 1), .bool false, .string (mg 1)] 29 rfl), HB.out.alloc HB.out.size _⟩
theorem lenE5 (m : Int) (out : List Nat) (hm : (Lit.int .i64 m).wf = true) (h0 : limE (VL E5) m = 0) (ho : limL E5 m.toNat = out) (g : Nat) (W : World) (hS : Sl W (some ⟨g, 0, none⟩) (VL E5)) :
    Calls Try.prog 14 #[.slice (some ⟨g, 0, none⟩) 5 5, .int .i64 m] W fun e w' => ∃ q, e = .returned (.tuple #[.slice (some ⟨q, 0, none⟩) 5 5, .int .i64 0]) ∧ BC w' q (natV out) ∧ Below W.heap.size W w' := by
  refine (Lengths39_any 5 (some ⟨g, 0, none⟩) (VL E5) m (by decide) (by unfold maxLen; decide) (.inl (by decide)) e5z hm W hS).mono ?_
  rintro e w' ⟨-, h, hb⟩
  obtain ⟨Ws, q, e1, rfl, hq⟩ := h h0
  obtain rfl := VL_inj e1
  rw [ho] at hq
  exact ⟨q, rfl, hq, hb⟩
theorem cosE5 (g : Nat) (W : World) (hS : Sl W (some ⟨g, 0, none⟩) (VL E5)) :
    Calls Try.prog 15 #[.slice (some ⟨g, 0, none⟩) 5 5, .int .i64 3] W fun e w' => e = .returned (.tuple #[.agg #[.bool false, .string (mg 32)], .int .i64 0]) ∧ Below W.heap.size W w' := by
  refine (Cost39_any 5 (some ⟨g, 0, none⟩) (VL E5) 3 (by decide) (by unfold maxLen; decide) (.inl (by decide)) e5z (by decide) W hS).mono ?_
  rintro e w' ⟨-, h, hb⟩
  obtain ⟨Ws, e1, rfl⟩ := h e5e
  obtain rfl := VL_inj e1
  exact ⟨by rw [show (3 : Int).toNat = 3 from rfl, e5c], hb⟩
theorem penE5 (g : Nat) (W : World) (hS : Sl W (some ⟨g, 0, none⟩) (VL E5)) :
    Calls Try.prog 17 #[.slice (some ⟨g, 0, none⟩) 5 5, .int .i64 3] W fun e w' => e = .returned (.tuple #[.agg #[.bool false, .string (mg 2)], .int .i64 0]) ∧ Below W.heap.size W w' := by
  refine (Penalty39_any 5 (some ⟨g, 0, none⟩) (VL E5) 3 (by decide) (by unfold maxLen; decide) (.inl (by decide)) e5z (by decide) W hS).mono ?_
  rintro e w' ⟨-, h, hb⟩
  obtain ⟨Ws, e1, rfl⟩ := h e5e
  obtain rfl := VL_inj e1
  exact ⟨by rw [show (3 : Int).toNat = 3 from rfl, e5c, e5d]; rfl, hb⟩
set_option maxRecDepth 100000 in
theorem eqN9 {W : World} {g p : Nat} {xs : List Nat} (hl : xs.length = 5) (hu : BC W g (natV xs)) (hv : BC W p (natV xs)) :
    Calls Try.prog 16 #[.slice (some ⟨g, 0, none⟩) 5 5, .slice (some ⟨p, 0, none⟩) 5 5] W fun e w' => e = .returned (.bool true) ∧ Below W.heap.size W w' := by
  have h := eqInt_any (W0 := W) (n := 5) (c := 5) (c2 := 5) (xs := xs.map fun (k : Nat) => (k : Int)) (ys := xs.map fun (k : Nat) => (k : Int)) (by rw [List.length_map]; exact hl) (by rw [List.length_map]; exact hl) (by decide) (fun i x hi => hu.at i x (by rw [natV_ints]; exact hi)) (fun i x hi => hv.at i x (by rw [natV_ints]; exact hi))
  have e : ((xs.map fun (k : Nat) => (k : Int)) == xs.map fun (k : Nat) => (k : Int)) = true := beq_self_eq_true (xs.map fun (k : Nat) => (k : Int))
  rw [e] at h
  exact h
set_option maxRecDepth 100000 in
set_option maxHeartbeats 4000000 in
theorem awake39_any (w : World) : Calls Try.prog 11 #[] w fun e w' => e = .returned (.bool true) ∧ Below w.heap.size w w' := by
  have HEX := Lib.hid (fun W => example39_any W)
  have HL3 := Lib.hid (fun g W hS => lenE5 3 [1, 3, 3, 3, 3] (by decide) e5e e5a g W hS)
  have HL4 := Lib.hid (fun g W hS => lenE5 4 [1, 2, 3, 4, 4] (by decide) e5f e5b g W hS)
  have HCO := Lib.hid (fun g W hS => cosE5 g W hS)
  have HPE := Lib.hid (fun g W hS => penE5 g W hS)
  have HEQ := Lib.hid (fun W g p xs hl hu hv => @eqN9 W g p xs hl hu hv)
  have HO32 := Lib.hid (fun W => show Calls Try.prog 12 #[.int .i64 32] W fun e w' => e = .returned (.agg #[.bool false, .string (mg 32)]) ∧ Below W.heap.size W w' from cOf 32 (by decide) (by decide) W)
  have HO2 := Lib.hid (fun W => show Calls Try.prog 12 #[.int .i64 2] W fun e w' => e = .returned (.agg #[.bool false, .string (mg 2)]) ∧ Below W.heap.size W w' from cOf 2 (by decide) (by decide) W)
  have hm1 : eqI false (mg 32) false (mg 32) = true := eqI_iff.2 ⟨rfl, rfl⟩
  have hm2 : eqI false (mg 2) false (mg 2) = true := eqI_iff.2 ⟨rfl, rfl⟩
  go_enter Try.func11, Try.ntmps11
  go_wp2_with fail
  refine (HEX.out _).mono ?_
  rintro e w1 ⟨g1, rfl, hs, hb⟩
  have HB1 := Lib.hid hb
  have HX := Lib.hid (HL3.out g1 w1 hs)
  clear hb hs
  go_wp2_with fail
  refine HX.out.mono ?_
  rintro e w2 ⟨q1, rfl, hq, hb⟩
  have HQ1 := Lib.hid hq
  have HB2 := Lib.hid (bstep HB1.out hb)
  clear HX HB1 hb hq
  go_wp2_with fail
  refine (HEX.out _).mono ?_
  rintro e w3 ⟨g2, rfl, hs, hb⟩
  have HB3 := Lib.hid (bstep HB2.out hb)
  have HX := Lib.hid (HL4.out g2 w3 hs)
  have HQ3 := Lib.hid (HQ1.out.below hb)
  clear hb hs HB2 HQ1
  go_wp2_with fail
  refine HX.out.mono ?_
  rintro e w4 ⟨q2, rfl, hq, hb⟩
  have HQ1 := Lib.hid (HQ3.out.below hb)
  have HQ2 := Lib.hid hq
  have HB4 := Lib.hid (bstep HB3.out hb)
  clear HX HB3 hb hq HQ3
  go_wp2_with fail
  refine (HEX.out _).mono ?_
  rintro e w5 ⟨g3, rfl, hs, hb⟩
  have HB5 := Lib.hid (bstep HB4.out hb)
  have HX := Lib.hid (HCO.out g3 w5 hs)
  have HQ5 := Lib.hid (And.intro (HQ1.out.below hb) (HQ2.out.below hb))
  clear hb hs HB4 HQ1 HQ2
  go_wp2_with fail
  refine HX.out.mono ?_
  rintro e w6 ⟨rfl, hb⟩
  have hal : Below w6.heap.size w6 (w6.alloc (.cells #[.bool false, .string (mg 32)] 29)) := (Below.refl _ _).alloc (Nat.le_refl _) _
  have hst := hb.trans (hal.mono hb.size)
  have HB6 := Lib.hid (bstep HB5.out hst)
  have HQ6 := Lib.hid (And.intro (HQ5.out.1.below hst) (HQ5.out.2.below hst))
  have HP6 := Lib.hid (BC.new w6 w6.heap.size #[.bool false, .string (mg 32)] 29 rfl)
  clear hb hal hst HX HB5 HQ5
  go_wp2_with fail
  obtain ⟨b5, hb5⟩ : ∃ b, w6.heap.size = b := ⟨_, rfl⟩
  rw [hb5] at HP6 ⊢
  obtain ⟨Y6, hY6⟩ : ∃ X, w6.alloc (.cells #[.bool false, .string (mg 32)] 29) = X := ⟨_, rfl⟩
  rw [hY6] at HB6 HQ6 HP6 ⊢
  clear hY6 hb5
  refine (HEX.out _).mono ?_
  rintro e w7 ⟨g4, rfl, hs, hb⟩
  have HB7 := Lib.hid (bstep HB6.out hb)
  have HX := Lib.hid (HPE.out g4 w7 hs)
  have HQ7 := Lib.hid (And.intro (HQ6.out.1.below hb) (HQ6.out.2.below hb))
  have HP7 := Lib.hid (HP6.out.below hb)
  clear hb hs HB6 HQ6 HP6
  go_wp2_with fail
  refine HX.out.mono ?_
  rintro e w8 ⟨rfl, hb⟩
  have hal : Below w8.heap.size w8 (w8.alloc (.cells #[.bool false, .string (mg 2)] 29)) := (Below.refl _ _).alloc (Nat.le_refl _) _
  have hst := hb.trans (hal.mono hb.size)
  have HB8 := Lib.hid (bstep HB7.out hst)
  have HQ8 := Lib.hid (And.intro (HQ7.out.1.below hst) (HQ7.out.2.below hst))
  have HP8 := Lib.hid (HP7.out.below hst)
  have HR8 := Lib.hid (BC.new w8 w8.heap.size #[.bool false, .string (mg 2)] 29 rfl)
  clear hb hal hst HX HB7 HQ7 HP7
  go_wp2_with fail
  obtain ⟨b7, hb7⟩ : ∃ b, w8.heap.size = b := ⟨_, rfl⟩
  rw [hb7] at HR8 ⊢
  obtain ⟨Y8, hY8⟩ : ∃ X, w8.alloc (.cells #[.bool false, .string (mg 2)] 29) = X := ⟨_, rfl⟩
  rw [hY8] at HB8 HQ8 HP8 HR8 ⊢
  clear hY8 hb7
  refine wp_region_mix [.q [0, 1, 2, 3, 4, 5, 6, 7], .r 8, .r 9, .q [10, 11, 12], .r 13, .r 14, .q [15, 16, 17], .r 18, .q [19, 20, 21, 22], .r 23, .q [24, 25]] [26] (by kernel_rfl) (by kernel_rfl) (by intro d v c a w h; cases d <;> exact h) ?_
  intro X0 hb hz
  have HX0 := Lib.hid hb
  clear hb hz
  refine wpMix_q ?_
  simp only [pickO, List.map_cons, List.map_nil, List.getElem?_toArray, List.getElem?_cons_succ, List.getElem?_cons_zero, Option.getD_some]
  haveI := cv_some X0
  iterate 8 (go_big_quiet_step (fail))
  refine wpQuiet_nil ?_
  clear this
  refine wpMix_r ?_
  simp only [pickO, List.map_cons, List.map_nil, List.getElem?_toArray, List.getElem?_cons_succ, List.getElem?_cons_zero, Option.getD_some]
  go_wp2_with fail
  have hP := BC.new X0 X0.heap.size #[.int .i64 1, .int .i64 3, .int .i64 3, .int .i64 3, .int .i64 3] 3 rfl
  have hab : Below X0.heap.size X0 (X0.alloc (.cells #[.int .i64 1, .int .i64 3, .int .i64 3, .int .i64 3, .int .i64 3] 3)) := (Below.refl _ X0).alloc (Nat.le_refl _) _
  refine mixQ_ok hab ?_
  have HX1 := Lib.hid (bstep HX0.out hab)
  obtain ⟨b0, hbe⟩ : ∃ b, X0.heap.size = b := ⟨_, rfl⟩
  rw [hbe] at hP ⊢
  clear hbe hab
  obtain ⟨X1, hW⟩ : ∃ W, (X0.alloc (.cells #[.int .i64 1, .int .i64 3, .int .i64 3, .int .i64 3, .int .i64 3] 3)) = W := ⟨_, rfl⟩
  rw [hW] at hP HX1 ⊢
  clear hW
  have HZ := Lib.hid (HEQ.out X1 _ _ [1, 3, 3, 3, 3] rfl (HQ8.out.1.below HX1.out) hP)
  clear hP
  refine wpMix_r ?_
  simp only [pickO, List.map_cons, List.map_nil, List.getElem?_toArray, List.getElem?_cons_succ, List.getElem?_cons_zero, Option.getD_some]
  go_wp2_with fail
  refine HZ.out.mono ?_
  rintro e X2 ⟨rfl, hbc⟩
  go_wp2_with fail
  refine mixQ_ok hbc ?_
  have HX2 := Lib.hid (bstep HX1.out hbc)
  clear hbc HZ
  refine wpMix_q ?_
  simp only [pickO, List.map_cons, List.map_nil, List.getElem?_toArray, List.getElem?_cons_succ, List.getElem?_cons_zero, Option.getD_some]
  haveI := cv_some X2
  iterate 3 (go_big_quiet_step (fail))
  refine wpQuiet_nil ?_
  clear this
  refine wpMix_r ?_
  simp only [pickO, List.map_cons, List.map_nil, List.getElem?_toArray, List.getElem?_cons_succ, List.getElem?_cons_zero, Option.getD_some]
  go_wp2_with fail
  have hP := BC.new X2 X2.heap.size #[.int .i64 1, .int .i64 2, .int .i64 3, .int .i64 4, .int .i64 4] 3 rfl
  have hab : Below X2.heap.size X2 (X2.alloc (.cells #[.int .i64 1, .int .i64 2, .int .i64 3, .int .i64 4, .int .i64 4] 3)) := (Below.refl _ X2).alloc (Nat.le_refl _) _
  refine mixQ_ok hab ?_
  have HX3 := Lib.hid (bstep HX2.out hab)
  obtain ⟨b0, hbe⟩ : ∃ b, X2.heap.size = b := ⟨_, rfl⟩
  rw [hbe] at hP ⊢
  clear hbe hab
  obtain ⟨X3, hW⟩ : ∃ W, (X2.alloc (.cells #[.int .i64 1, .int .i64 2, .int .i64 3, .int .i64 4, .int .i64 4] 3)) = W := ⟨_, rfl⟩
  rw [hW] at hP HX3 ⊢
  clear hW
  have HZ := Lib.hid (HEQ.out X3 _ _ [1, 2, 3, 4, 4] rfl (HQ8.out.2.below HX3.out) hP)
  clear hP
  refine wpMix_r ?_
  simp only [pickO, List.map_cons, List.map_nil, List.getElem?_toArray, List.getElem?_cons_succ, List.getElem?_cons_zero, Option.getD_some]
  go_wp2_with fail
  refine HZ.out.mono ?_
  rintro e X4 ⟨rfl, hbc⟩
  go_wp2_with fail
  refine mixQ_ok hbc ?_
  have HX4 := Lib.hid (bstep HX3.out hbc)
  clear hbc HZ
  refine wpMix_q ?_
  simp only [pickO, List.map_cons, List.map_nil, List.getElem?_toArray, List.getElem?_cons_succ, List.getElem?_cons_zero, Option.getD_some]
  haveI := cv_some X4
  have x0 : ∀ u : Cv X4, u.x.cell? ⟨b5, 0, none⟩ = some (.bool false) := fun u => (HP8.out.below (bstep HX4.out u.h)).at 0 _ rfl
  have x1 : ∀ u : Cv X4, u.x.cell? ⟨b5, 1, none⟩ = some (.string (mg 32)) := fun u => (HP8.out.below (bstep HX4.out u.h)).at 1 _ rfl
  iterate 3 (go_big_quiet_step (fail))
  refine wpQuiet_nil ?_
  clear this x0 x1
  refine wpMix_r ?_
  simp only [pickO, List.map_cons, List.map_nil, List.getElem?_toArray, List.getElem?_cons_succ, List.getElem?_cons_zero, Option.getD_some]
  go_wp2_with fail
  refine (HO32.out _).mono ?_
  rintro e X5 ⟨rfl, hbc⟩
  go_wp2_with fail
  refine mixQ_ok hbc ?_
  have HX5 := Lib.hid (bstep HX4.out hbc)
  clear hbc
  refine wpMix_q ?_
  simp only [pickO, List.map_cons, List.map_nil, List.getElem?_toArray, List.getElem?_cons_succ, List.getElem?_cons_zero, Option.getD_some]
  haveI := cv_some X5
  have x0 : ∀ u : Cv X5, u.x.cell? ⟨b7, 0, none⟩ = some (.bool false) := fun u => (HR8.out.below (bstep HX5.out u.h)).at 0 _ rfl
  have x1 : ∀ u : Cv X5, u.x.cell? ⟨b7, 1, none⟩ = some (.string (mg 2)) := fun u => (HR8.out.below (bstep HX5.out u.h)).at 1 _ rfl
  iterate 4 (go_big_quiet_step (fail))
  refine wpQuiet_nil ?_
  clear this x0 x1
  refine wpMix_r ?_
  simp only [pickO, List.map_cons, List.map_nil, List.getElem?_toArray, List.getElem?_cons_succ, List.getElem?_cons_zero, Option.getD_some]
  go_wp2_with fail
  refine (HO2.out _).mono ?_
  rintro e X6 ⟨rfl, hbc⟩
  go_wp2_with fail
  refine mixQ_ok hbc ?_
  have HX6 := Lib.hid (bstep HX5.out hbc)
  clear hbc
  refine wpMix_q ?_
  simp only [pickO, List.map_cons, List.map_nil, List.getElem?_toArray, List.getElem?_cons_succ, List.getElem?_cons_zero, Option.getD_some]
  haveI := cv_some X6
  iterate 2 (go_big_quiet_step (fail))
  refine wpQuiet_nil ?_
  clear this
  refine wpMix_nil ?_
  simp only [pickO, List.map_cons, List.map_nil, List.getElem?_toArray, List.getElem?_cons_succ, List.getElem?_cons_zero, Option.getD_some]
  go_wp2
  go_ret
  exact ⟨rfl, bstep HB8.out HX6.out⟩
end Go.Proofs.Gv
