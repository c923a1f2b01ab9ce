/- limited.Penalty. -/
import Derived.Test.YtghjjfknlnegpaaGreatLim3P
import Derived.Test.YtghjjfknlnegpaaGreatHctnP
import Derived.Test.YtghjjfknlnegpaaGreatHslP
import Derived.Test.YtghjjfknlnegpaaGreatLplP
import Derived.Test.YtghjjfknlnegpaaGreatHmeqP
import Derived.Test.YtghjjfknlnegpaaGreatDivmemP
import Derived.Test.YtghjjfknlnegpaaGreatMix
set_option linter.unusedSimpArgs false
set_option linter.unusedVariables false
namespace Go.Proofs.Gv
open Go Go.RowKit Go.Maps

/-- The cost of Huffman's code. -/
noncomputable def hufC (Ws : List Nat) : Nat := csum Ws (lenH 2 Ws)
/-- What Penalty answers. -/
def LPn (L : List (Bool × ByteArray)) (m : Int) (w : World) (e : Ending) (w' : World) : Prop :=
  (limE L m ≠ 0 → e = .returned (.tuple #[.agg #[.bool false, .string ⟨#[]⟩], .int .i64 (limE L m)])) ∧
  (limE L m = 0 → ∃ Ws, L = VL Ws ∧ e = .returned (.tuple #[.agg #[.bool (sgn ((limC Ws m.toNat : Int) - (hufC Ws : Int))), .string (mg ((limC Ws m.toNat : Int) - (hufC Ws : Int)).natAbs)], .int .i64 0])) ∧ Below w.heap.size w w'
theorem VLinj9 {A B : List Nat} (h : VL A = VL B) : A = B := by
  have key : ∀ l : List Nat, (VL l).map (fun x => bv x.2.data.toList) = l := fun l => by
    unfold VL
    rw [List.map_map]
    refine (List.map_congr_left fun x _ => ?_).trans (List.map_id l)
    exact bv_mg x
  rw [← key A, ← key B, h]
theorem limC_lt {Ws : List Nat} {k : Nat} (h2 : Ws.length ≤ 12) (hk : k ≤ 64) (h : Ws.length ≤ 2 ^ k) (hz : ∀ z ∈ Ws, z < 2 ^ 64) : limC Ws k < 2 ^ 82 := by
  have h1 := tb_le (owL Ws) Ws.length k 1 0 _ (limC_is h)
  have h3 : (owL Ws).sum < 2 ^ 74 := sum_lt (N := 64) (fun z hz2 => by
    obtain ⟨o, ho, rfl⟩ := List.mem_map.1 hz2
    have := ordL_lt ho
    exact hz _ (by rw [List.getD_eq_getElem?_getD, List.getElem?_eq_getElem this]; exact List.getElem_mem _)) (by rw [owL_len]; omega)
  have h4 : k * (owL Ws).sum ≤ 64 * (owL Ws).sum := Nat.mul_le_mul_right _ hk
  have : (2 : Nat) ^ 82 = 256 * 2 ^ 74 := by decide
  omega
theorem lenW_two9 (L : List (Bool × ByteArray)) : lenW 2 L = chkW L := by unfold lenW; rw [if_neg (by decide)]
theorem lenH_pos9 {q : Nat} (hq : 2 ≤ q) {W : List Nat} (h2 : 2 ≤ W.length) : ∀ d ∈ lenH q W, 1 ≤ d := by
  intro d hd
  have hm := merges_ms (q := q) hq (Ws := W) (by omega)
  obtain ⟨-, -, -, a4⟩ := hm.sums hq (List.replicate ((startL q W).length + (mergesH q W).length) 0) (by rw [List.length_replicate]; exact Nat.le_refl _) (rep_zero _)
  obtain ⟨i, hi⟩ := List.getElem?_of_mem hd
  have hil : i < W.length := by have := (List.getElem?_eq_some_iff.1 hi).1; rwa [lenH_len] at this
  rw [lenH_at hil] at hi
  have e : (depH q W).getD i 0 = d := Option.some.inj hi
  rw [← e]
  exact a4 (by rw [startL_cf, startL_len]; omega) i W[i] (startL_at (List.getElem?_eq_getElem hil))
theorem hce9 {Ws : List Nat} (h2 : 2 ≤ Ws.length) (h64 : Ws.length ≤ 64) (hc : chkW (VL Ws) = 0) : costE (VL Ws) ((lenH 2 Ws).map fun (k : Nat) => (k : Int)) = 0 := by
  obtain ⟨-, -, sp3, -, -, sp6⟩ := lenH_spec (q := 2) (Nat.le_refl 2) (W := Ws) (by omega)
  have hml : (mergesH 2 Ws).length ≤ 63 := by
    have h1 := startL_len 2 Ws
    have h2 : padT 2 Ws.length = 0 := by unfold padT; rw [Nat.mod_one]
    omega
  unfold costE
  rw [if_neg (by rw [hc]; simp), if_neg (by rw [List.length_map, lenH_len, VL_len]; simp), if_neg]
  simp only [Bool.not_eq_true, List.any_eq_false, List.mem_map]
  rintro _ ⟨d, hd, rfl⟩
  have h1 := sp3 d hd
  have h2 : 1 ≤ d := lenH_pos9 (Nat.le_refl 2) h2 d hd
  simp [badL]; omega
theorem hufC_lt {Ws : List Nat} (h2 : 2 ≤ Ws.length) (h64 : Ws.length ≤ 64) (hz : ∀ z ∈ Ws, z < 2 ^ 64) : hufC Ws < 2 ^ 136 := by
  obtain ⟨-, -, sp3, -, -, sp6⟩ := lenH_spec (q := 2) (Nat.le_refl 2) (W := Ws) (by omega)
  have hml : (mergesH 2 Ws).length ≤ 63 := by
    have h1 := startL_len 2 Ws
    have h2 : padT 2 Ws.length = 0 := by unfold padT; rw [Nat.mod_one]
    omega
  exact csum_lt (N := 64) (lenH_len 2 Ws) hz (fun d hd => Nat.lt_of_le_of_lt (sp3 d hd) (by omega)) (by omega)
set_option maxRecDepth 100000 in
set_option maxHeartbeats 4000000 in
theorem Penalty39_any (cap : Nat) (a : Option Addr) (L : List (Bool × ByteArray)) (m : Int) (hc : L.length ≤ cap) (hcm : cap ≤ maxLen) (h12 : L.length ≤ 12 ∨ 64 < L.length) (hz : ∀ x ∈ L, x.2.size ≤ 8) (hm : (Lit.int .i64 m).wf = true) (w : World) (hSl : Sl w a L) :
    Calls Tryz.prog 21 #[.slice a L.length cap, .int .i64 m] w (LPn L m w) := by
  have HCS := Lib.hid (fun W (hb : Below w.heap.size w W) => Cost39_any cap a L m hc hcm h12 hz hm W (hSl.below hb))
  have hb1 : Below w.heap.size w (w.alloc (.cells #[.bool false, .string ⟨#[]⟩] 29)) := (Below.refl _ _).alloc (Nat.le_refl _) _
  have bR := BC.new w w.heap.size #[.bool false, .string ⟨#[]⟩] 29 rfl
  obtain ⟨p, hp⟩ : ∃ p, w.heap.size = p := ⟨_, rfl⟩
  obtain ⟨X, hX⟩ : ∃ X, w.alloc (.cells #[.bool false, .string ⟨#[]⟩] 29) = X := ⟨_, rfl⟩
  rw [hX] at hb1 bR
  rw [hp] at bR
  have HBX := Lib.hid hb1
  have HBR := Lib.hid bR
  have HPP := Lib.hid hp
  have HC1 := Lib.hid (HCS.out X hb1)
  clear hb1 bR
  by_cases h0 : ¬ limE L m = 0
  · obtain ⟨E, hE⟩ : ∃ E, limE L m = E := ⟨_, rfl⟩
    have HE := Lib.hid hE
    unfold LCs at HC1
    rw [hE] at HC1 h0
    have hne : (E != 0) = true := by simpa using h0
    have HN := Lib.hid h0
    clear h0 hE hSl hz
    go_enter Tryz.func21, Tryz.ntmps21
    go_wp2_with fail
    refine HC1.out.mono ?_
    rintro e w1 ⟨he, -, hb⟩
    obtain rfl := he HN.out
    have b1 := HBR.out.below hb
    have HB := Lib.hid (bstep HBX.out hb)
    have t0 := b1.at 0 _ rfl
    have t1 := b1.at 1 _ rfl
    have z0 := b1.z 0 (by simp)
    have z1 := b1.z 1 (by simp)
    have hlt : p < w1.heap.size := b1.lt
    have bS := b1.set2 0 1 (.bool false) (.string ⟨#[]⟩) (by simp) (by simp)
    have s0 := bS.at 0 _ rfl
    have s1 := bS.at 1 _ rfl
    have bA := bS.alloc (.cells #[.bool false, .string ⟨#[]⟩] 29)
    have r0 := bA.at 0 _ rfl
    have r1 := bA.at 1 _ rfl
    have hBS := (HB.out.setCell (p := ⟨p, 0, none⟩) (by have := HPP.out; show w.heap.size ≤ p; omega) (.bool false)).setCell (p := ⟨p, 1, none⟩) (by have := HPP.out; show w.heap.size ≤ p; omega) (.string ⟨#[]⟩)
    have HBY := Lib.hid (hBS.alloc hBS.size (.cells #[.bool false, .string ⟨#[]⟩] 29))
    clear hb b1 bS bA hBS he
    go_wp2
    refine bodyPost_ret (v := .tuple #[.agg #[.bool false, .string ⟨#[]⟩], .int .i64 E]) (by simp [results, Tryz.results21, go_sem, s0, s1, r0, r1, hlt]) rfl ?_
    unfold LPn
    rw [HE.out]
    exact ⟨fun _ => rfl, fun h => absurd h HN.out, HBY.out⟩
  · have h0 := Decidable.not_not.1 h0
    obtain ⟨hck, m, rfl, hk1, hk64, hk2⟩ := limE_ok h0
    obtain ⟨h2, h64, Ws, hWs⟩ := chkW_ok hck
    obtain rfl : L = VL Ws := hWs
    have HL0 := Lib.hid h0
    have HLE := Lib.hid (fun W (hb : Below w.heap.size w W) => Lengths_any 2 cap a (VL Ws) (Nat.le_trans hc hcm) (fun x hx => Nat.le_trans (hz x hx) (by decide)) W (hSl.below hb))
    have HCO := Lib.hid (fun (v : Value) W (hb : Below w.heap.size w W) (hv : RowAt W v (intsV ((lenH 2 Ws).map fun (k : Nat) => (k : Int)))) => Cost_any cap a (VL Ws) v ((lenH 2 Ws).map fun (k : Nat) => (k : Int)) (Nat.le_trans hc hcm) (by rw [List.length_map, lenH_len]; unfold maxLen; rw [VL_len] at h64; omega) (fun x hx => Nat.le_trans (hz x hx) (by decide)) W (hSl.below hb) hv)
    rw [lenW_two9, hck] at HLE
    rw [VL_len] at hc h2 h64 h12 hk2 HC1 HLE HCO ⊢
    rw [hce9 h2 h64 hck] at HCO
    have hcl := limC_lt (Ws := Ws) (k := m) (by omega) hk64 hk2 (VLlt9 hz)
    have hhl := hufC_lt (Ws := Ws) h2 h64 (VLlt9 hz)
    obtain ⟨c1, hc1⟩ : ∃ c, limC Ws m = c := ⟨_, rfl⟩
    obtain ⟨c2, hc2⟩ : ∃ c, hufC Ws = c := ⟨_, rfl⟩
    have HCC := Lib.hid (And.intro hc1 hc2)
    rw [hc1] at hcl
    rw [hc2] at hhl
    have HSB := Lib.hid (fun Y => cSub (VN_rp (N := 82) hcl (by decide)) (VN_rp (N := 136) hhl (by decide)) Y)
    obtain ⟨n, hn⟩ : ∃ n, Ws.length = n := ⟨_, rfl⟩
    have HNN := Lib.hid hn
    rw [hn] at HC1 HLE HCO ⊢
    clear h0 hSl hz hn hc h12 hk2 hck hc1 hc2 hcl hhl h2 h64
    go_enter Tryz.func21, Tryz.ntmps21
    go_wp2_with fail
    refine HC1.out.mono ?_
    rintro e w1 ⟨-, he, hb⟩
    obtain ⟨Us, e1, rfl⟩ := he HL0.out
    obtain rfl := VLinj9 e1
    rw [Int.toNat_natCast, HCC.out.1]
    have hal : Below w1.heap.size w1 (w1.alloc (.cells #[.bool false, .string (mg c1)] 29)) := (Below.refl _ _).alloc (Nat.le_refl _) _
    have hst := hb.trans (hal.mono hb.size)
    have HB := Lib.hid (bstep HBX.out hst)
    have HBR3 := Lib.hid (HBR.out.below hst)
    have HB6 := Lib.hid (BC.new w1 w1.heap.size #[.bool false, .string (mg c1)] 29 rfl)
    clear hb hal hst he e1
    go_wp2_with fail
    obtain ⟨b6, hb6⟩ : ∃ b, w1.heap.size = b := ⟨_, rfl⟩
    rw [hb6] at HB6 ⊢
    obtain ⟨X3, hX3⟩ : ∃ X, w1.alloc (.cells #[.bool false, .string (mg c1)] 29) = X := ⟨_, rfl⟩
    rw [hX3] at HB HBR3 HB6 ⊢
    clear hX3 hb6
    refine (HLE.out X3 HB.out).mono ?_
    rintro e w3 ⟨v, rfl, -, hv, hb3⟩
    obtain ⟨q, Us, hq, e2, -, -, -, -, hnu⟩ := hv trivial
    obtain rfl := VLinj9 e2
    obtain rfl : q = 2 := by omega
    obtain ⟨g, cc, rfl, -, -, hcell⟩ := hnu
    have hra : RowAt w3 (.slice (some ⟨g, 0, none⟩) (lenH 2 Ws).length cc) (intsV ((lenH 2 Ws).map fun (k : Nat) => (k : Int))) := by
      rw [intsV_nat]
      refine ⟨some ⟨g, 0, none⟩, cc, by rw [natV_length], fun i x hi => ⟨g, rfl, ?_⟩⟩
      unfold natV at hi
      rw [List.getElem?_map] at hi
      cases hd : (lenH 2 Ws)[i]? with
      | none => rw [hd] at hi; cases hi
      | some d => rw [hd] at hi; cases hi; exact hcell i d hd
    have HB3 := Lib.hid (bstep HB.out hb3)
    have HCX := Lib.hid (HCO.out _ w3 HB3.out hra)
    have HBR4 := Lib.hid (HBR3.out.below hb3)
    have HB64 := Lib.hid (HB6.out.below hb3)
    clear hv hcell hra hb3 e2 hq
    go_wp2_with fail
    refine HCX.out.mono ?_
    rintro e w4 ⟨⟨z, rfl, -, hz⟩, hb4⟩
    obtain ⟨Vs, ds, e3, e4, -, -, -, -, hzz⟩ := hz trivial
    obtain rfl := VLinj9 e3
    have hds : ds = lenH 2 Ws := by
      have h := congrArg (fun l : List Int => l.map Int.toNat) e4
      simp only [List.map_map] at h
      have e : ∀ l : List Nat, (l.map (Int.toNat ∘ fun (k : Nat) => (k : Int))) = l := fun l => (List.map_congr_left fun x _ => Int.toNat_natCast x).trans (List.map_id _)
      rw [e, e] at h
      exact h.symm
    subst hds
    have hzh : z = hufC Ws := hzz
    rw [HCC.out.2] at hzh
    subst hzh
    unfold VN
    have hal : Below w4.heap.size w4 (w4.alloc (.cells #[.bool false, .string (mg z)] 29)) := (Below.refl _ _).alloc (Nat.le_refl _) _
    have hst := hb4.trans (hal.mono hb4.size)
    have HB4 := Lib.hid (bstep HB3.out hst)
    have b1 := HBR4.out.below hst
    have b6c := HB64.out.below hst
    have b9 := BC.new w4 w4.heap.size #[.bool false, .string (mg z)] 29 rfl
    obtain ⟨q9, hq9⟩ : ∃ b, w4.heap.size = b := ⟨_, rfl⟩
    rw [hq9] at b9
    obtain ⟨X4, hX4⟩ : ∃ X, w4.alloc (.cells #[.bool false, .string (mg z)] 29) = X := ⟨_, rfl⟩
    rw [hX4] at HB4 b1 b6c b9
    have c0 := b6c.at 0 _ rfl
    have c1' := b6c.at 1 _ rfl
    have d0 := b9.at 0 _ rfl
    have d1 := b9.at 1 _ rfl
    have HBR5 := Lib.hid b1
    clear hz hzz e3 e4 hal hst hb4 b1 b6c b9
    go_wp2_with fail
    refine (HSB.out _).mono ?_
    rintro e w5 ⟨rfl, hb5⟩
    have b1 := HBR5.out.below hb5
    have HB5 := Lib.hid (bstep HB4.out hb5)
    obtain ⟨sb, hsb⟩ : ∃ s, sgn ((c1 : Int) - (z : Int)) = s := ⟨_, rfl⟩
    obtain ⟨ub, hub⟩ : ∃ s, mg ((c1 : Int) - (z : Int)).natAbs = s := ⟨_, rfl⟩
    have HSU := Lib.hid (And.intro hsb hub)
    rw [hsb, hub]
    have t0 := b1.at 0 _ rfl
    have t1 := b1.at 1 _ rfl
    have z0 := b1.z 0 (by simp)
    have z1 := b1.z 1 (by simp)
    have bS := b1.set2 0 1 (.bool sb) (.string ub) (by simp) (by simp)
    have s0 := bS.at 0 _ rfl
    have s1 := bS.at 1 _ rfl
    have HBY := Lib.hid ((HB5.out.setCell (p := ⟨p, 0, none⟩) (by have := HPP.out; show w.heap.size ≤ p; omega) (.bool sb)).setCell (p := ⟨p, 1, none⟩) (by have := HPP.out; show w.heap.size ≤ p; omega) (.string ub))
    clear hb5 b1 bS c0 c1' d0 d1 hsb hub
    go_wp2
    refine bodyPost_ret (v := .tuple #[.agg #[.bool sb, .string ub], .int .i64 0]) (by simp [results, Tryz.results21, go_sem, s0, s1]) rfl ?_
    unfold LPn
    refine ⟨fun h => absurd HL0.out h, fun _ => ⟨Ws, rfl, ?_⟩, HBY.out⟩
    rw [Int.toNat_natCast, HCC.out.1, HCC.out.2, HSU.out.1, HSU.out.2]
end Go.Proofs.Gv

namespace Go.Proofs.Gv
open Go Go.RowKit Go.Maps

theorem chkR_VL : ∀ Ws : List Nat, chkR (VL Ws) = 0
  | [] => rfl
  | z :: r => by
    have hc : Canon false (mg z) := by
      have := canon_V (z : Int)
      rwa [Int.natAbs_natCast, show sgn (z : Int) = false from decide_eq_false (by omega)] at this
    have hi : ¬ iv false (mg z) < 0 := by unfold iv; rw [if_neg (by decide)]; omega
    have ih := chkR_VL r
    show chkR ((false, mg z) :: VL r) = 0
    unfold chkR
    rw [if_pos hc, if_neg hi]
    exact ih
theorem VL_inj {A B : List Nat} (h : VL A = VL B) : A = B := by
  have key : ∀ l : List Nat, (VL l).map (fun x => bv x.2.data.toList) = l := fun l => by
    unfold VL
    rw [List.map_map]
    refine (List.map_congr_left fun x _ => ?_).trans (List.map_id l)
    exact bv_mg x
  rw [← key A, ← key B, h]
theorem chkW_VL {Ws : List Nat} (h1 : 2 ≤ Ws.length) (h2 : Ws.length ≤ 64) : chkW (VL Ws) = 0 := by
  have hl : (VL Ws).length = Ws.length := by unfold VL; rw [List.length_map]
  unfold chkW
  rw [hl, if_neg (by omega), if_neg (by omega), chkR_VL]
theorem natV_ints (l : List Nat) : natV l = intsV (l.map fun (k : Nat) => (k : Int)) := (intsV_nat l).symm
theorem Nums.below {W W' W2 : World} {v : Value} {d : List Nat} (h : Nums W W' v d) (hb : Below W'.heap.size W' W2) : Nums W W2 v d := by
  obtain ⟨g, c, rfl, h2, h3, h4⟩ := h
  exact ⟨g, c, rfl, h2, Nat.lt_of_lt_of_le h3 hb.size, fun i k hi => (hb.cell (p := ⟨g, i, none⟩) h3).trans (h4 i k hi)⟩
theorem MrgAt.below {W W' : World} {v : Value} {ps : List (Int × Int)} (h : MrgAt W v ps) (hb : Below W.heap.size W W') : MrgAt W' v ps := by
  obtain ⟨a, c, rfl, hat⟩ := h
  refine ⟨a, c, rfl, fun i x hi => ?_⟩
  obtain ⟨g, rfl, hc⟩ := hat i x hi
  exact ⟨g, rfl, (hb.cell (p := ⟨g, i, none⟩) (World.block_lt_of_cell? W _ hc)).trans hc⟩
theorem eqInt_any {W0 W : World} {g c p c2 n : Nat} {xs ys : List Int} (hx : xs.length = n) (hy : ys.length = n) (hn : n ≤ 1000) (hu : ∀ i x, (intsV xs)[i]? = some x → W.cell? ⟨g, i, none⟩ = some x) (hv : ∀ i x, (intsV ys)[i]? = some x → W.cell? ⟨p, i, none⟩ = some x) :
    Calls Tryz.prog 22 #[.slice (some ⟨g, 0, none⟩) n c, .slice (some ⟨p, 0, none⟩) n c2] W fun e w' => e = .returned (.bool (xs == ys)) ∧ Below W.heap.size W w' := by
  have key : ∀ (l : List Int) (q : Nat), (∀ i x, (intsV l)[i]? = some x → W.cell? ⟨q, i, none⟩ = some x) → ∀ j, j < l.length → W.cell? ⟨q, 0 + j, none⟩ = some (.int .i64 (l.getD j 0)) := fun l q h j hj => by
    rw [Nat.zero_add]
    refine h j _ ?_
    unfold intsV
    rw [List.getElem?_map, List.getElem?_eq_getElem hj, List.getD_eq_getElem?_getD, List.getElem?_eq_getElem hj]
    rfl
  refine (Tryz.slices_Equal_int g 0 n c p 0 n c2 xs ys W (by omega) (by omega) (by omega) (by omega) (key xs g hu) (key ys p hv)).mono ?_
  rintro e w' ⟨rfl, q, rfl⟩
  exact ⟨by rw [List.take_of_length_le (by omega), List.take_of_length_le (by omega)], below_drewN (Below.refl _ W)⟩
end Go.Proofs.Gv
