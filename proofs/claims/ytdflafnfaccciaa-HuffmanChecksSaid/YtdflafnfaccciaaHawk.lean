/- groovelaw38.awake: the witness. -/
import Derived.Test.YtdflafnfaccciaaHmeqP
import Derived.Test.YtdflafnfaccciaaIntNegP
import Derived.Test.YtdflafnfaccciaaMix
set_option linter.unusedSimpArgs false
set_option linter.unusedVariables false
namespace Go.Proofs.Gv
open Go Go.RowKit Go.Maps

theorem chkR_VL : ∀ Ws : List Nat, chkR (VL Ws) = 0
  | [] => rfl
  | z :: r => by
    have hc : Canon false (mg z) := by
      have := canon_V (z : Int)
      rwa [Int.natAbs_natCast, show sgn (z : Int) = false from decide_eq_false (by omega)] at this
    have hi : ¬ iv false (mg z) < 0 := by unfold iv; rw [if_neg (by decide)]; omega
    have ih := chkR_VL r
    show chkR ((false, mg z) :: VL r) = 0
    unfold chkR
    rw [if_pos hc, if_neg hi]
    exact ih
theorem VL_inj {A B : List Nat} (h : VL A = VL B) : A = B := by
  have key : ∀ l : List Nat, (VL l).map (fun x => bv x.2.data.toList) = l := fun l => by
    unfold VL
    rw [List.map_map]
    refine (List.map_congr_left fun x _ => ?_).trans (List.map_id l)
    exact bv_mg x
  rw [← key A, ← key B, h]
theorem chkW_VL {Ws : List Nat} (h1 : 2 ≤ Ws.length) (h2 : Ws.length ≤ 64) : chkW (VL Ws) = 0 := by
  have hl : (VL Ws).length = Ws.length := by unfold VL; rw [List.length_map]
  unfold chkW
  rw [hl, if_neg (by omega), if_neg (by omega), chkR_VL]
theorem aw1 : lenH 2 [1, 1, 2, 4] = [3, 3, 2, 1] := by decide
theorem aw2 : lenH 3 [1, 1, 2, 4] = [2, 2, 1, 1] := by decide
theorem aw3 : pairsOf (mergesH 2 [1, 1, 2, 4]) = [(0, 1), (2, 4), (3, 5)] := by decide
theorem aw4 : csum [1, 1, 2, 4] [3, 3, 2, 1] = 14 := by decide
theorem natV_ints (l : List Nat) : natV l = intsV (l.map fun (k : Nat) => (k : Int)) := (intsV_nat l).symm
theorem Nums.rowAt {W W' : World} {v : Value} {d : List Nat} (h : Nums W W' v d) : RowAt W' v (natV d) := by
  obtain ⟨g, c, rfl, _, _, h4⟩ := h
  refine ⟨some ⟨g, 0, none⟩, c, by rw [natV_len], fun i x hi => ⟨g, rfl, ?_⟩⟩
  unfold natV at hi
  rw [List.getElem?_map] at hi
  cases hd : d[i]? with
  | none => rw [hd] at hi; cases hi
  | some k => rw [hd] at hi; cases hi; exact h4 i k hd
theorem Nums.below {W W' W2 : World} {v : Value} {d : List Nat} (h : Nums W W' v d) (hb : Below W'.heap.size W' W2) : Nums W W2 v d := by
  obtain ⟨g, c, rfl, h2, h3, h4⟩ := h
  exact ⟨g, c, rfl, h2, Nat.lt_of_lt_of_le h3 hb.size, fun i k hi => (hb.cell (p := ⟨g, i, none⟩) h3).trans (h4 i k hi)⟩
theorem MrgAt.below {W W' : World} {v : Value} {ps : List (Int × Int)} (h : MrgAt W v ps) (hb : Below W.heap.size W W') : MrgAt W' v ps := by
  obtain ⟨a, c, rfl, hat⟩ := h
  refine ⟨a, c, rfl, fun i x hi => ?_⟩
  obtain ⟨g, rfl, hc⟩ := hat i x hi
  exact ⟨g, rfl, (hb.cell (p := ⟨g, i, none⟩) (World.block_lt_of_cell? W _ hc)).trans hc⟩
theorem eqInt_any {W0 W : World} {g c p c2 n : Nat} {xs ys : List Int} (hx : xs.length = n) (hy : ys.length = n) (hn : n ≤ 1000) (hu : ∀ i x, (intsV xs)[i]? = some x → W.cell? ⟨g, i, none⟩ = some x) (hv : ∀ i x, (intsV ys)[i]? = some x → W.cell? ⟨p, i, none⟩ = some x) :
    Calls Try.prog 10 #[.slice (some ⟨g, 0, none⟩) n c, .slice (some ⟨p, 0, none⟩) n c2] W fun e w' => e = .returned (.bool (xs == ys)) ∧ Below W.heap.size W w' := by
  have key : ∀ (l : List Int) (q : Nat), (∀ i x, (intsV l)[i]? = some x → W.cell? ⟨q, i, none⟩ = some x) → ∀ j, j < l.length → W.cell? ⟨q, 0 + j, none⟩ = some (.int .i64 (l.getD j 0)) := fun l q h j hj => by
    rw [Nat.zero_add]
    refine h j _ ?_
    unfold intsV
    rw [List.getElem?_map, List.getElem?_eq_getElem hj, List.getD_eq_getElem?_getD, List.getElem?_eq_getElem hj]
    rfl
  refine (Try.slices_Equal_int g 0 n c p 0 n c2 xs ys W (by omega) (by omega) (by omega) (by omega) (key xs g hu) (key ys p hv)).mono ?_
  rintro e w' ⟨rfl, q, rfl⟩
  exact ⟨by rw [List.take_of_length_le (by omega), List.take_of_length_le (by omega)], below_drewN (Below.refl _ W)⟩
set_option maxRecDepth 100000 in
set_option maxHeartbeats 500000 in
theorem awake_any (w : World) : Calls Try.prog 5 #[] w fun e w' => e = .returned (.bool true) ∧ Below w.heap.size w w' := by
  have HI := Lib.hid (ints_any (.slice (some ⟨w.heap.size, 0, none⟩) 4 4) [1, 1, 2, 4] (by decide) (by decide) (w.alloc (.cells #[.int .i64 1, .int .i64 1, .int .i64 2, .int .i64 4] 3))
    ⟨some ⟨w.heap.size, 0, none⟩, 4, rfl, fun i x hi => ⟨_, rfl, (BC.new w w.heap.size #[.int .i64 1, .int .i64 1, .int .i64 2, .int .i64 4] 3 rfl).at i x hi⟩⟩)
  have HB0 := Lib.hid ((Below.refl w.heap.size w).alloc (Nat.le_refl _) (.cells #[.int .i64 1, .int .i64 1, .int .i64 2, .int .i64 4] 3))
  have hcw : chkW (VL [1, 1, 2, 4]) = 0 := chkW_VL (by decide) (by decide)
  have hl2 : lenW 2 (VL [1, 1, 2, 4]) = 0 := by unfold lenW; rw [if_neg (by decide)]; exact hcw
  have hl3 : lenW 3 (VL [1, 1, 2, 4]) = 0 := by unfold lenW; rw [if_neg (by decide)]; exact hcw
  have hce : costE (VL [1, 1, 2, 4]) [3, 3, 2, 1] = 0 := by unfold costE; rw [if_neg (by rw [hcw]; simp), if_neg (by decide), if_neg (by decide)]
  have hzz : ∀ x ∈ VL [1, 1, 2, 4], x.2.size ≤ 100000 := fun x hx => by
    unfold VL at hx
    obtain ⟨z, hz, rfl⟩ := List.mem_map.1 hx
    have hz4 : z ≤ 4 := by simp at hz; omega
    exact Nat.le_trans (size_mg (n := z) (k := 1) (by omega)) (by decide)
  have HLN := Lib.hid (fun (q : Int) (g c : Nat) (W : World) (hS : Sl W (some ⟨g, 0, none⟩) (VL [1, 1, 2, 4])) (hg : g < W.heap.size) => Lengths_any q c (some ⟨g, 0, none⟩) (VL [1, 1, 2, 4]) (by decide) hzz W hS)
  have HMR := Lib.hid (fun (g c : Nat) (W : World) (hS : Sl W (some ⟨g, 0, none⟩) (VL [1, 1, 2, 4])) (hg : g < W.heap.size) => Merges_any c (some ⟨g, 0, none⟩) (VL [1, 1, 2, 4]) (by decide) hzz W hS)
  have HCS := Lib.hid (fun (v : Value) (g c : Nat) (W : World) (hS : Sl W (some ⟨g, 0, none⟩) (VL [1, 1, 2, 4])) (hv : RowAt W v (intsV [3, 3, 2, 1])) => Cost_any c (some ⟨g, 0, none⟩) (VL [1, 1, 2, 4]) v [3, 3, 2, 1] (by decide) (by decide) hzz W hS hv)
  have HE := Lib.hid (show chkW (VL [1, 1, 2, 4]) = 0 ∧ lenW 2 (VL [1, 1, 2, 4]) = 0 ∧ lenW 3 (VL [1, 1, 2, 4]) = 0 ∧ costE (VL [1, 1, 2, 4]) [3, 3, 2, 1] = 0 from ⟨hcw, hl2, hl3, hce⟩)
  clear hcw hl2 hl3 hce hzz
  go_enter Try.func5, Try.ntmps5
  go_wp2_with fail
  refine HI.out.mono ?_
  rintro e w1 ⟨r, rfl, hown, hg⟩
  obtain ⟨g, cap, rfl, hgb, hgl⟩ := hown.form (by decide)
  have HS := Lib.hid (Sl.of_own (L := VL [1, 1, 2, 4]) hown)
  have HB1 := Lib.hid (HB0.out.grown hg HB0.out.size (fun k e => by cases e))
  have HGL := Lib.hid hgl
  clear hown hg
  have HC1 := Lib.hid (HLN.out 2 g cap w1 HS.out hgl)
  go_wp2_with fail
  refine HC1.out.mono ?_
  rintro e w2 ⟨v2, rfl, -, h2, hb2⟩
  obtain ⟨n, Ws, e1, e2, -, -, -, -, h2⟩ := h2 HE.out.2.1
  obtain rfl : 2 = n := by omega
  obtain rfl := VL_inj e2
  rw [aw1] at h2
  rw [HE.out.2.1]
  have HV2 := Lib.hid h2
  have HS2 := Lib.hid (HS.out.below hb2)
  have HB2 := Lib.hid (HB1.out.grown (Below.grows hb2) HB1.out.size (fun k e => by cases e))
  have hgl2 := Nat.lt_of_lt_of_le hgl hb2.size
  have HM2 := Lib.hid (HMR.out g cap w2 HS2.out hgl2)
  clear h2 hb2 HC1 HB1 HS e1 e2
  go_wp2_with fail
  refine HM2.out.mono ?_
  rintro e w3 ⟨⟨v3, rfl, -, h3⟩, hb3⟩
  obtain ⟨Ws, e2, -, -, h3⟩ := h3 HE.out.1
  obtain rfl := VL_inj e2
  rw [aw3] at h3
  rw [HE.out.1]
  have HV3 := Lib.hid h3
  have HV23 := Lib.hid (HV2.out.below hb3)
  have HS3 := Lib.hid (HS2.out.below hb3)
  have HB3 := Lib.hid (HB2.out.grown (Below.grows hb3) HB2.out.size (fun k e => by cases e))
  have hgl3 := Nat.lt_of_lt_of_le hgl2 hb3.size
  have HM3 := Lib.hid (HCS.out v2 g cap w3 HS3.out (by have := HV23.out.rowAt; rw [natV_ints] at this; exact this))
  clear h3 hb3 HM2 HB2 HS2 HV2 e2
  go_wp2_with fail
  refine HM3.out.mono ?_
  rintro e w4 ⟨⟨z, rfl, -, h4⟩, hb4⟩
  obtain ⟨Ws, ds, e2, e3, -, -, -, -, ez⟩ := h4 HE.out.2.2.2
  obtain rfl := VL_inj e2
  obtain rfl : [3, 3, 2, 1] = ds := by
    have := congrArg (List.map Int.toNat) e3
    rw [List.map_map] at this
    have hid : ds.map (Int.toNat ∘ fun (k : Nat) => (k : Int)) = ds := (List.map_congr_left fun x _ => Int.toNat_natCast x).trans (List.map_id ds)
    rw [hid] at this
    exact this
  rw [aw4] at ez
  subst ez
  rw [HE.out.2.2.2]
  have HV4 := Lib.hid (HV3.out.below hb4)
  have HV24 := Lib.hid (HV23.out.below hb4)
  have HS4 := Lib.hid (HS3.out.below hb4)
  have HB4 := Lib.hid (HB3.out.grown (Below.grows hb4) HB3.out.size (fun k e => by cases e))
  have hgl4 := Nat.lt_of_lt_of_le hgl3 hb4.size
  clear hb4 HM3 HB3 HS3 HV3 HV23 h4 e2 e3
  unfold VN
  have HP6 := Lib.hid (BC.new w4 w4.heap.size #[.bool false, .string (mg 14)] 34 rfl)
  have hab : Below w4.heap.size w4 (w4.alloc (.cells #[.bool false, .string (mg 14)] 34)) := (Below.refl _ w4).alloc (Nat.le_refl _) _
  have HM4 := Lib.hid (HLN.out 3 g cap (w4.alloc (.cells #[.bool false, .string (mg 14)] 34)) (HS4.out.below hab) (Nat.lt_of_lt_of_le hgl4 hab.size))
  have HV4a := Lib.hid (HV4.out.below hab)
  have HV24a := Lib.hid (HV24.out.below hab)
  have HB4a := Lib.hid (HB4.out.grown (Below.grows hab) HB4.out.size (fun k e => by cases e))
  clear hab
  go_wp2_with fail
  refine HM4.out.mono ?_
  rintro e w5 ⟨v5, rfl, -, h5, hb5⟩
  obtain ⟨n, Ws, e1, e2, -, -, -, -, h5⟩ := h5 HE.out.2.2.1
  obtain rfl : 3 = n := by omega
  obtain rfl := VL_inj e2
  rw [aw2] at h5
  rw [HE.out.2.2.1]
  have HB5 := Lib.hid (HB4a.out.grown (Below.grows hb5) HB4a.out.size (fun k e => by cases e))
  have HP5 := Lib.hid (HP6.out.below hb5)
  have HV3 := Lib.hid (HV4a.out.below hb5)
  obtain ⟨g2, c2, rfl, _, hg2, h2⟩ := HV24a.out.below hb5
  obtain ⟨g5, c5, rfl, _, hg5, h5c⟩ := h5
  obtain ⟨B6, hB6⟩ : ∃ B, w4.heap.size = B := ⟨_, rfl⟩
  rw [hB6] at HP5 ⊢
  have E1 := Lib.hid (fun (W : World) (p : Nat) (hb : Below w5.heap.size w5 W) (hp : BC W p [.int .i64 3, .int .i64 3, .int .i64 2, .int .i64 1]) => eqInt_any (W0 := W) (g := g2) (c := c2) (p := p) (c2 := 4) (n := 4) (xs := [3, 3, 2, 1]) (ys := [3, 3, 2, 1]) rfl rfl (by decide)
    (fun i x hi => by
      have hi2 : (natV [3, 3, 2, 1])[i]? = some x := hi
      unfold natV at hi2
      rw [List.getElem?_map] at hi2
      cases hd : ([3, 3, 2, 1] : List Nat)[i]? with
      | none => rw [hd] at hi2; cases hi2
      | some k => rw [hd] at hi2; cases hi2; exact (hb.cell (p := ⟨g2, i, none⟩) hg2).trans (h2 i k hd)) (fun i x hi => hp.at i x hi))
  have E3 := Lib.hid (fun (W : World) (p : Nat) (hb : Below w5.heap.size w5 W) (hp : BC W p [.int .i64 2, .int .i64 2, .int .i64 1, .int .i64 1]) => eqInt_any (W0 := W) (g := g5) (c := c5) (p := p) (c2 := 4) (n := 4) (xs := [2, 2, 1, 1]) (ys := [2, 2, 1, 1]) rfl rfl (by decide)
    (fun i x hi => by
      have hi2 : (natV [2, 2, 1, 1])[i]? = some x := hi
      unfold natV at hi2
      rw [List.getElem?_map] at hi2
      cases hd : ([2, 2, 1, 1] : List Nat)[i]? with
      | none => rw [hd] at hi2; cases hi2
      | some k => rw [hd] at hi2; cases hi2; exact (hb.cell (p := ⟨g5, i, none⟩) hg5).trans (h5c i k hd)) (fun i x hi => hp.at i x hi))
  have E2 := Lib.hid (fun (W : World) (p : Nat) (hb : Below w5.heap.size w5 W) (hp : BC W p (mrgV [(0, 1), (2, 4), (3, 5)])) => eqMrg_any v3 (.slice (some ⟨p, 0, none⟩) 3 3) [(0, 1), (2, 4), (3, 5)] [(0, 1), (2, 4), (3, 5)] (by decide) (by decide) W (HV3.out.below hb) ⟨some ⟨p, 0, none⟩, 3, rfl, fun i x hi => ⟨p, rfl, hp.at i x hi⟩⟩)
  have E4 := Lib.hid (fun W => show Calls Try.prog 16 #[.int .i64 14] W fun e w' => e = .returned (.agg #[.bool false, .string (mg 14)]) ∧ Below W.heap.size W w' from by
    have := cOf 14 (by decide) (by decide) W
    exact this)
  clear h2 h5c hg2 hg5 hb5 HM4 HB4 HB4a HV4 HV4a HV24 HV24a HP6 HS4 hgl hgl2 hgl3 hgl4 HLN HMR HCS HI HB0 hgb HGL hB6 e1 e2
  have hmg : eqI false (mg 14) false (mg 14) = true := eqI_iff.2 ⟨rfl, rfl⟩
  go_wp2_with fail
  refine wp_region_mix [.q [0, 1, 2, 3, 4, 5, 6, 7, 8, 9, 10, 11, 12, 13, 14, 15], .r 16, .r 17, .q [18, 19, 20, 21, 22, 23], .r 24, .r 25, .q [26, 27, 28], .r 29, .q [30, 31, 32, 33], .r 34, .r 35, .q [36]] [37] (by kernel_rfl) (by kernel_rfl) (by intro d v c a w h; cases d <;> exact h) ?_
  intro X0 hb hz
  have HX0 := Lib.hid hb
  clear hb hz
  refine wpMix_q ?_
  simp only [pickO, List.map_cons, List.map_nil, List.getElem?_toArray, List.getElem?_cons_succ, List.getElem?_cons_zero, Option.getD_some]
  haveI := cv_some X0
  iterate 16 (go_big_quiet_step (fail))
  refine wpQuiet_nil ?_
  clear this
  refine wpMix_r ?_
  simp only [pickO, List.map_cons, List.map_nil, List.getElem?_toArray, List.getElem?_cons_succ, List.getElem?_cons_zero, Option.getD_some]
  go_wp2_with fail
  have hP := BC.new X0 X0.heap.size #[.int .i64 3, .int .i64 3, .int .i64 2, .int .i64 1] 3 rfl
  have hab : Below X0.heap.size X0 (X0.alloc (.cells #[.int .i64 3, .int .i64 3, .int .i64 2, .int .i64 1] 3)) := (Below.refl _ X0).alloc (Nat.le_refl _) _
  refine mixQ_ok hab ?_
  have HX1 := Lib.hid (bstep HX0.out hab)
  obtain ⟨b1, hbe⟩ : ∃ b, X0.heap.size = b := ⟨_, rfl⟩
  rw [hbe] at hP ⊢
  clear hbe hab
  obtain ⟨X1, hW⟩ : ∃ W, X0.alloc (.cells #[.int .i64 3, .int .i64 3, .int .i64 2, .int .i64 1] 3) = W := ⟨_, rfl⟩
  rw [hW] at hP HX1 ⊢
  clear hW
  have HP := Lib.hid hP
  clear hP
  refine wpMix_r ?_
  simp only [pickO, List.map_cons, List.map_nil, List.getElem?_toArray, List.getElem?_cons_succ, List.getElem?_cons_zero, Option.getD_some]
  go_wp2_with fail
  refine (E1.out _ _ HX1.out HP.out).mono ?_
  rintro e X2 ⟨rfl, hbc⟩
  go_wp2_with fail
  refine mixQ_ok hbc ?_
  have HX2 := Lib.hid (bstep HX1.out hbc)
  clear hbc
  refine wpMix_q ?_
  simp only [pickO, List.map_cons, List.map_nil, List.getElem?_toArray, List.getElem?_cons_succ, List.getElem?_cons_zero, Option.getD_some]
  haveI := cv_some X2
  iterate 6 (go_big_quiet_step (fail))
  refine wpQuiet_nil ?_
  clear this
  refine wpMix_r ?_
  simp only [pickO, List.map_cons, List.map_nil, List.getElem?_toArray, List.getElem?_cons_succ, List.getElem?_cons_zero, Option.getD_some]
  go_wp2_with fail
  have hP := BC.new X2 X2.heap.size #[.int .i64 0, .int .i64 1, .int .i64 2, .int .i64 4, .int .i64 3, .int .i64 5] 43 rfl
  have hab : Below X2.heap.size X2 (X2.alloc (.cells #[.int .i64 0, .int .i64 1, .int .i64 2, .int .i64 4, .int .i64 3, .int .i64 5] 43)) := (Below.refl _ X2).alloc (Nat.le_refl _) _
  refine mixQ_ok hab ?_
  have HX3 := Lib.hid (bstep HX2.out hab)
  obtain ⟨b2, hbe⟩ : ∃ b, X2.heap.size = b := ⟨_, rfl⟩
  rw [hbe] at hP ⊢
  clear hbe hab
  obtain ⟨X3, hW⟩ : ∃ W, X2.alloc (.cells #[.int .i64 0, .int .i64 1, .int .i64 2, .int .i64 4, .int .i64 3, .int .i64 5] 43) = W := ⟨_, rfl⟩
  rw [hW] at hP HX3 ⊢
  clear hW
  have HP := Lib.hid hP
  clear hP
  refine wpMix_r ?_
  simp only [pickO, List.map_cons, List.map_nil, List.getElem?_toArray, List.getElem?_cons_succ, List.getElem?_cons_zero, Option.getD_some]
  go_wp2_with fail
  refine (E2.out _ _ HX3.out HP.out).mono ?_
  rintro e X4 ⟨rfl, hbc⟩
  go_wp2_with fail
  refine mixQ_ok hbc ?_
  have HX4 := Lib.hid (bstep HX3.out hbc)
  clear hbc
  refine wpMix_q ?_
  simp only [pickO, List.map_cons, List.map_nil, List.getElem?_toArray, List.getElem?_cons_succ, List.getElem?_cons_zero, Option.getD_some]
  haveI := cv_some X4
  have x0 : ∀ u : Cv X4, u.x.cell? ⟨B6, 0, none⟩ = some (.bool false) := fun u => (HP5.out.below (bstep HX4.out u.h)).at 0 _ rfl
  have x1 : ∀ u : Cv X4, u.x.cell? ⟨B6, 1, none⟩ = some (.string (mg 14)) := fun u => (HP5.out.below (bstep HX4.out u.h)).at 1 _ rfl
  iterate 3 (go_big_quiet_step (fail))
  refine wpQuiet_nil ?_
  clear this x0 x1
  refine wpMix_r ?_
  simp only [pickO, List.map_cons, List.map_nil, List.getElem?_toArray, List.getElem?_cons_succ, List.getElem?_cons_zero, Option.getD_some]
  go_wp2_with fail
  refine (E4.out _).mono ?_
  rintro e X5 ⟨rfl, hbc⟩
  go_wp2_with fail
  refine mixQ_ok hbc ?_
  have HX5 := Lib.hid (bstep HX4.out hbc)
  clear hbc
  refine wpMix_q ?_
  simp only [pickO, List.map_cons, List.map_nil, List.getElem?_toArray, List.getElem?_cons_succ, List.getElem?_cons_zero, Option.getD_some]
  haveI := cv_some X5
  iterate 4 (go_big_quiet_step (fail))
  refine wpQuiet_nil ?_
  clear this
  refine wpMix_r ?_
  simp only [pickO, List.map_cons, List.map_nil, List.getElem?_toArray, List.getElem?_cons_succ, List.getElem?_cons_zero, Option.getD_some]
  go_wp2_with fail
  have hP := BC.new X5 X5.heap.size #[.int .i64 2, .int .i64 2, .int .i64 1, .int .i64 1] 3 rfl
  have hab : Below X5.heap.size X5 (X5.alloc (.cells #[.int .i64 2, .int .i64 2, .int .i64 1, .int .i64 1] 3)) := (Below.refl _ X5).alloc (Nat.le_refl _) _
  refine mixQ_ok hab ?_
  have HX6 := Lib.hid (bstep HX5.out hab)
  obtain ⟨b4, hbe⟩ : ∃ b, X5.heap.size = b := ⟨_, rfl⟩
  rw [hbe] at hP ⊢
  clear hbe hab
  obtain ⟨X6, hW⟩ : ∃ W, X5.alloc (.cells #[.int .i64 2, .int .i64 2, .int .i64 1, .int .i64 1] 3) = W := ⟨_, rfl⟩
  rw [hW] at hP HX6 ⊢
  clear hW
  have HP := Lib.hid hP
  clear hP
  refine wpMix_r ?_
  simp only [pickO, List.map_cons, List.map_nil, List.getElem?_toArray, List.getElem?_cons_succ, List.getElem?_cons_zero, Option.getD_some]
  go_wp2_with fail
  refine (E3.out _ _ HX6.out HP.out).mono ?_
  rintro e X7 ⟨rfl, hbc⟩
  go_wp2_with fail
  refine mixQ_ok hbc ?_
  have HX7 := Lib.hid (bstep HX6.out hbc)
  clear hbc
  refine wpMix_q ?_
  simp only [pickO, List.map_cons, List.map_nil, List.getElem?_toArray, List.getElem?_cons_succ, List.getElem?_cons_zero, Option.getD_some]
  haveI := cv_some X7
  iterate 1 (go_big_quiet_step (fail))
  refine wpQuiet_nil ?_
  clear this
  refine wpMix_nil ?_
  simp only [pickO, List.map_cons, List.map_nil, List.getElem?_toArray, List.getElem?_cons_succ, List.getElem?_cons_zero, Option.getD_some]
  go_wp2
  go_ret
  exact ⟨rfl, bstep HB5.out HX7.out⟩
end Go.Proofs.Gv
