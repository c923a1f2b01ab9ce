/- groovelaw39.awake: the witness. -/
import Derived.Test.YtglgiofjgfbfgaaLln
import Derived.Test.YtglgiofjgfbfgaaHawkP
set_option linter.unusedSimpArgs false
set_option linter.unusedVariables false
namespace Go.Proofs.Gv
open Go Go.RowKit Go.Maps

@[go_sem] theorem run_max4z {P : Program} {w : World} (ts : Array TypeId) (t : TypeId) : (Builtin.max_ ts t #[.int .i64 0, .int .i64 0, .int .i64 0, .int .i64 0]).run P w = .ok (.int .i64 0) w := by
  first
  | rfl
  | simp [Builtin.max_, go_sem]
def E5 : List Nat := [8, 4, 2, 1, 1]
theorem e5a : limL E5 3 = [1, 3, 3, 3, 3] := by decide +kernel
theorem e5b : limL E5 4 = [1, 2, 3, 4, 4] := by decide +kernel
theorem e5c : limC E5 3 = 32 := by decide +kernel
theorem e5d : hufC E5 = 30 := by
  have h1 : lenH 2 E5 = [1, 2, 3, 4, 4] := by decide +kernel
  unfold hufC
  rw [h1]
  decide
theorem e5k : chkW (VL E5) = 0 := chkW_VL (by decide) (by decide)
theorem e5e : limE (VL E5) 3 = 0 := by unfold limE; rw [if_neg (by rw [e5k]; simp), if_neg (by decide), if_neg (by rw [VL_len]; decide)]
theorem e5f : limE (VL E5) 4 = 0 := by unfold limE; rw [if_neg (by rw [e5k]; simp), if_neg (by decide), if_neg (by rw [VL_len]; decide)]
theorem e5z : ∀ x ∈ VL E5, x.2.size ≤ 8 := fun x hx => by
  unfold VL at hx
  obtain ⟨z, hz, rfl⟩ := List.mem_map.1 hx
  have hz4 : z ≤ 8 := by simp [E5] at hz; omega
  exact Nat.le_trans (size_mg (n := z) (k := 1) (by omega)) (by decide)
theorem Sl.of_bc {W : World} {g : Nat} {L : List (Bool × ByteArray)} (h : BC W g (inV L)) : Sl W (Option.some ⟨g, 0, none⟩) L := fun i b s hi => by
  obtain ⟨h0, h1⟩ := inV_at9 L i b s hi
  have hadd : ∀ j, (⟨g, 0, none⟩ : Addr).add j = ⟨g, j, none⟩ := fun j => by unfold Addr.add; split <;> simp_all
  exact ⟨_, rfl, by rw [hadd]; exact h.at _ _ h0, by rw [hadd]; exact h.at _ _ h1⟩
set_option maxRecDepth 100000 in
set_option maxHeartbeats 1600000 in
theorem example39_any (w : World) : Calls Try.prog 43 #[] w fun e w' => ∃ g, e = .returned (.slice (some ⟨g, 0, none⟩) 5 5) ∧ Sl w' (some ⟨g, 0, none⟩) (VL E5) ∧ Below w.heap.size w w' := by
  have HOF := Lib.hid (fun (k : Nat) (hk : k < 1000) W => show Calls Try.prog 12 #[.int .i64 (k : Int)] W fun e w' => e = .returned (.agg #[.bool false, .string (mg k)]) ∧ Below W.heap.size W w' from by
    have := cOf (k : Int) (by omega) (by omega) W
    rwa [Int.natAbs_natCast, show sgn (k : Int) = false from decide_eq_false (by omega)] at this)
  go_enter Try.func43, Try.ntmps43
  go_wp2_with fail
  refine (HOF.out 8 (by decide) _).mono ?_
  rintro e w1 ⟨rfl, hb1⟩
  go_wp2_with fail
  refine (HOF.out 4 (by decide) _).mono ?_
  rintro e w2 ⟨rfl, hb2⟩
  go_wp2_with fail
  refine (HOF.out 2 (by decide) _).mono ?_
  rintro e w3 ⟨rfl, hb3⟩
  go_wp2_with fail
  refine (HOF.out 1 (by decide) _).mono ?_
  rintro e w4 ⟨rfl, hb4⟩
  go_wp2_with fail
  refine (HOF.out 1 (by decide) _).mono ?_
  rintro e w5 ⟨rfl, hb5⟩
  have HB := Lib.hid (bstep (bstep (bstep (bstep hb1 hb2) hb3) hb4) hb5)
  clear hb1 hb2 hb3 hb4 hb5
  go_wp2
  go_ret
  exact ⟨w5.heap.size, rfl, Sl.of_bc (BC.new w5 w5.heap.size #[.bool false, .string (mg 8), .bool false, .string (mg 4), .bool false, .string (mg 2), .bool false, .string (mg 1), .bool false, .string (mg 1)] 29 rfl), HB.out.alloc HB.out.size _⟩
theorem lenE5 (m : Int) (out : List Nat) (hm : (Lit.int .i64 m).wf = true) (h0 : limE (VL E5) m = 0) (ho : limL E5 m.toNat = out) (g : Nat) (W : World) (hS : Sl W (some ⟨g, 0, none⟩) (VL E5)) :
    Calls Try.prog 14 #[.slice (some ⟨g, 0, none⟩) 5 5, .int .i64 m] W fun e w' => ∃ q, e = .returned (.tuple #[.slice (some ⟨q, 0, none⟩) 5 5, .int .i64 0]) ∧ BC w' q (natV out) ∧ Below W.heap.size W w' := by
  refine (Lengths39_any 5 (some ⟨g, 0, none⟩) (VL E5) m (by decide) (by unfold maxLen; decide) (.inl (by decide)) e5z hm W hS).mono ?_
  rintro e w' ⟨-, h, hb⟩
  obtain ⟨Ws, q, e1, rfl, hq⟩ := h h0
  obtain rfl := VL_inj e1
  rw [ho] at hq
  exact ⟨q, rfl, hq, hb⟩
theorem cosE5 (g : Nat) (W : World) (hS : Sl W (some ⟨g, 0, none⟩) (VL E5)) :
    Calls Try.prog 15 #[.slice (some ⟨g, 0, none⟩) 5 5, .int .i64 3] W fun e w' => e = .returned (.tuple #[.agg #[.bool false, .string (mg 32)], .int .i64 0]) ∧ Below W.heap.size W w' := by
  refine (Cost39_any 5 (some ⟨g, 0, none⟩) (VL E5) 3 (by decide) (by unfold maxLen; decide) (.inl (by decide)) e5z (by decide) W hS).mono ?_
  rintro e w' ⟨-, h, hb⟩
  obtain ⟨Ws, e1, rfl⟩ := h e5e
  obtain rfl := VL_inj e1
  exact ⟨by rw [show (3 : Int).toNat = 3 from rfl, e5c], hb⟩
theorem penE5 (g : Nat) (W : World) (hS : Sl W (some ⟨g, 0, none⟩) (VL E5)) :
    Calls Try.prog 17 #[.slice (some ⟨g, 0, none⟩) 5 5, .int .i64 3] W fun e w' => e = .returned (.tuple #[.agg #[.bool false, .string (mg 2)], .int .i64 0]) ∧ Below W.heap.size W w' := by
  refine (Penalty39_any 5 (some ⟨g, 0, none⟩) (VL E5) 3 (by decide) (by unfold maxLen; decide) (.inl (by decide)) e5z (by decide) W hS).mono ?_
  rintro e w' ⟨-, h, hb⟩
  obtain ⟨Ws, e1, rfl⟩ := h e5e
  obtain rfl := VL_inj e1
  exact ⟨by rw [show (3 : Int).toNat = 3 from rfl, e5c, e5d]; rfl, hb⟩
set_option maxRecDepth 100000 in
theorem eqN9 {W : World} {g p : Nat} {xs : List Nat} (hl : xs.length = 5) (hu : BC W g (natV xs)) (hv : BC W p (natV xs)) :
    Calls Try.prog 16 #[.slice (some ⟨g, 0, none⟩) 5 5, .slice (some ⟨p, 0, none⟩) 5 5] W fun e w' => e = .returned (.bool true) ∧ Below W.heap.size W w' := by
  have h := eqInt_any (W0 := W) (n := 5) (c := 5) (c2 := 5) (xs := xs.map fun (k : Nat) => (k : Int)) (ys := xs.map fun (k : Nat) => (k : Int)) (by rw [List.length_map]; exact hl) (by rw [List.length_map]; exact hl) (by decide) (fun i x hi => hu.at i x (by rw [natV_ints]; exact hi)) (fun i x hi => hv.at i x (by rw [natV_ints]; exact hi))
  have e : ((xs.map fun (k : Nat) => (k : Int)) == xs.map fun (k : Nat) => (k : Int)) = true := beq_self_eq_true (xs.map fun (k : Nat) => (k : Int))
  rw [e] at h
  exact h
set_option maxRecDepth 100000 in
set_option maxHeartbeats 4000000 in
theorem awake39_any (w : World) : Calls Try.prog 11 #[] w fun e w' => e = .returned (.bool true) ∧ Below w.heap.size w w' := by
  have HEX := Lib.hid (fun W => example39_any W)
  have HL3 := Lib.hid (fun g W hS => lenE5 3 [1, 3, 3, 3, 3] (by decide) e5e e5a g W hS)
  have HL4 := Lib.hid (fun g W hS => lenE5 4 [1, 2, 3, 4, 4] (by decide) e5f e5b g W hS)
  have HCO := Lib.hid (fun g W hS => cosE5 g W hS)
  have HPE := Lib.hid (fun g W hS => penE5 g W hS)
  have HEQ := Lib.hid (fun W g p xs hl hu hv => @eqN9 W g p xs hl hu hv)
  have HO32 := Lib.hid (fun W => show Calls Try.prog 12 #[.int .i64 32] W fun e w' => e = .returned (.agg #[.bool false, .string (mg 32)]) ∧ Below W.heap.size W w' from cOf 32 (by decide) (by decide) W)
  have HO2 := Lib.hid (fun W => show Calls Try.prog 12 #[.int .i64 2] W fun e w' => e = .returned (.agg #[.bool false, .string (mg 2)]) ∧ Below W.heap.size W w' from cOf 2 (by decide) (by decide) W)
  have hm1 : eqI false (mg 32) false (mg 32) = true := eqI_iff.2 ⟨rfl, rfl⟩
  have hm2 : eqI false (mg 2) false (mg 2) = true := eqI_iff.2 ⟨rfl, rfl⟩
  go_enter Try.func11, Try.ntmps11
  go_wp2_with fail
  refine (HEX.out _).mono ?_
  rintro e w1 ⟨g1, rfl, hs, hb⟩
  have HB1 := Lib.hid hb
  have HX := Lib.hid (HL3.out g1 w1 hs)
  clear hb hs
  go_wp2_with fail
  refine HX.out.mono ?_
  rintro e w2 ⟨q1, rfl, hq, hb⟩
  have HQ1 := Lib.hid hq
  have HB2 := Lib.hid (bstep HB1.out hb)
  clear HX HB1 hb hq
  go_wp2_with fail
  refine (HEX.out _).mono ?_
  rintro e w3 ⟨g2, rfl, hs, hb⟩
  have HB3 := Lib.hid (bstep HB2.out hb)
  have HX := Lib.hid (HL4.out g2 w3 hs)
  have HQ3 := Lib.hid (HQ1.out.below hb)
  clear hb hs HB2 HQ1
  go_wp2_with fail
  refine HX.out.mono ?_
  rintro e w4 ⟨q2, rfl, hq, hb⟩
  have HQ1 := Lib.hid (HQ3.out.below hb)
  have HQ2 := Lib.hid hq
  have HB4 := Lib.hid (bstep HB3.out hb)
  clear HX HB3 hb hq HQ3
  go_wp2_with fail
  refine (HEX.out _).mono ?_
  rintro e w5 ⟨g3, rfl, hs, hb⟩
  have HB5 := Lib.hid (bstep HB4.out hb)
  have HX := Lib.hid (HCO.out g3 w5 hs)
  have HQ5 := Lib.hid (And.intro (HQ1.out.below hb) (HQ2.out.below hb))
  clear hb hs HB4 HQ1 HQ2
  go_wp2_with fail
  refine HX.out.mono ?_
  rintro e w6 ⟨rfl, hb⟩
  have hal : Below w6.heap.size w6 (w6.alloc (.cells #[.bool false, .string (mg 32)] 29)) := (Below.refl _ _).alloc (Nat.le_refl _) _
  have hst := hb.trans (hal.mono hb.size)
  have HB6 := Lib.hid (bstep HB5.out hst)
  have HQ6 := Lib.hid (And.intro (HQ5.out.1.below hst) (HQ5.out.2.below hst))
  have HP6 := Lib.hid (BC.new w6 w6.heap.size #[.bool false, .string (mg 32)] 29 rfl)
  clear hb hal hst HX HB5 HQ5
  go_wp2_with fail
  obtain ⟨b5, hb5⟩ : ∃ b, w6.heap.size = b := ⟨_, rfl⟩
  rw [hb5] at HP6 ⊢
  obtain ⟨Y6, hY6⟩ : ∃ X, w6.alloc (.cells #[.bool false, .string (mg 32)] 29) = X := ⟨_, rfl⟩
  rw [hY6] at HB6 HQ6 HP6 ⊢
  clear hY6 hb5
  refine (HEX.out _).mono ?_
  rintro e w7 ⟨g4, rfl, hs, hb⟩
  have HB7 := Lib.hid (bstep HB6.out hb)
  have HX := Lib.hid (HPE.out g4 w7 hs)
  have HQ7 := Lib.hid (And.intro (HQ6.out.1.below hb) (HQ6.out.2.below hb))
  have HP7 := Lib.hid (HP6.out.below hb)
  clear hb hs HB6 HQ6 HP6
  go_wp2_with fail
  refine HX.out.mono ?_
  rintro e w8 ⟨rfl, hb⟩
  have hal : Below w8.heap.size w8 (w8.alloc (.cells #[.bool false, .string (mg 2)] 29)) := (Below.refl _ _).alloc (Nat.le_refl _) _
  have hst := hb.trans (hal.mono hb.size)
  have HB8 := Lib.hid (bstep HB7.out hst)
  have HQ8 := Lib.hid (And.intro (HQ7.out.1.below hst) (HQ7.out.2.below hst))
  have HP8 := Lib.hid (HP7.out.below hst)
  have HR8 := Lib.hid (BC.new w8 w8.heap.size #[.bool false, .string (mg 2)] 29 rfl)
  clear hb hal hst HX HB7 HQ7 HP7
  go_wp2_with fail
  obtain ⟨b7, hb7⟩ : ∃ b, w8.heap.size = b := ⟨_, rfl⟩
  rw [hb7] at HR8 ⊢
  obtain ⟨Y8, hY8⟩ : ∃ X, w8.alloc (.cells #[.bool false, .string (mg 2)] 29) = X := ⟨_, rfl⟩
  rw [hY8] at HB8 HQ8 HP8 HR8 ⊢
  clear hY8 hb7
  refine wp_region_mix [.q [0, 1, 2, 3, 4, 5, 6, 7], .r 8, .r 9, .q [10, 11, 12], .r 13, .r 14, .q [15, 16, 17], .r 18, .q [19, 20, 21, 22], .r 23, .q [24, 25]] [26] (by kernel_rfl) (by kernel_rfl) (by intro d v c a w h; cases d <;> exact h) ?_
  intro X0 hb hz
  have HX0 := Lib.hid hb
  clear hb hz
  refine wpMix_q ?_
  simp only [pickO, List.map_cons, List.map_nil, List.getElem?_toArray, List.getElem?_cons_succ, List.getElem?_cons_zero, Option.getD_some]
  haveI := cv_some X0
  iterate 8 (go_big_quiet_step (fail))
  refine wpQuiet_nil ?_
  clear this
  refine wpMix_r ?_
  simp only [pickO, List.map_cons, List.map_nil, List.getElem?_toArray, List.getElem?_cons_succ, List.getElem?_cons_zero, Option.getD_some]
  go_wp2_with fail
  have hP := BC.new X0 X0.heap.size #[.int .i64 1, .int .i64 3, .int .i64 3, .int .i64 3, .int .i64 3] 3 rfl
  have hab : Below X0.heap.size X0 (X0.alloc (.cells #[.int .i64 1, .int .i64 3, .int .i64 3, .int .i64 3, .int .i64 3] 3)) := (Below.refl _ X0).alloc (Nat.le_refl _) _
  refine mixQ_ok hab ?_
  have HX1 := Lib.hid (bstep HX0.out hab)
  obtain ⟨b0, hbe⟩ : ∃ b, X0.heap.size = b := ⟨_, rfl⟩
  rw [hbe] at hP ⊢
  clear hbe hab
  obtain ⟨X1, hW⟩ : ∃ W, (X0.alloc (.cells #[.int .i64 1, .int .i64 3, .int .i64 3, .int .i64 3, .int .i64 3] 3)) = W := ⟨_, rfl⟩
  rw [hW] at hP HX1 ⊢
  clear hW
  have HZ := Lib.hid (HEQ.out X1 _ _ [1, 3, 3, 3, 3] rfl (HQ8.out.1.below HX1.out) hP)
  clear hP
  refine wpMix_r ?_
  simp only [pickO, List.map_cons, List.map_nil, List.getElem?_toArray, List.getElem?_cons_succ, List.getElem?_cons_zero, Option.getD_some]
  go_wp2_with fail
  refine HZ.out.mono ?_
  rintro e X2 ⟨rfl, hbc⟩
  go_wp2_with fail
  refine mixQ_ok hbc ?_
  have HX2 := Lib.hid (bstep HX1.out hbc)
  clear hbc HZ
  refine wpMix_q ?_
  simp only [pickO, List.map_cons, List.map_nil, List.getElem?_toArray, List.getElem?_cons_succ, List.getElem?_cons_zero, Option.getD_some]
  haveI := cv_some X2
  iterate 3 (go_big_quiet_step (fail))
  refine wpQuiet_nil ?_
  clear this
  refine wpMix_r ?_
  simp only [pickO, List.map_cons, List.map_nil, List.getElem?_toArray, List.getElem?_cons_succ, List.getElem?_cons_zero, Option.getD_some]
  go_wp2_with fail
  have hP := BC.new X2 X2.heap.size #[.int .i64 1, .int .i64 2, .int .i64 3, .int .i64 4, .int .i64 4] 3 rfl
  have hab : Below X2.heap.size X2 (X2.alloc (.cells #[.int .i64 1, .int .i64 2, .int .i64 3, .int .i64 4, .int .i64 4] 3)) := (Below.refl _ X2).alloc (Nat.le_refl _) _
  refine mixQ_ok hab ?_
  have HX3 := Lib.hid (bstep HX2.out hab)
  obtain ⟨b0, hbe⟩ : ∃ b, X2.heap.size = b := ⟨_, rfl⟩
  rw [hbe] at hP ⊢
  clear hbe hab
  obtain ⟨X3, hW⟩ : ∃ W, (X2.alloc (.cells #[.int .i64 1, .int .i64 2, .int .i64 3, .int .i64 4, .int .i64 4] 3)) = W := ⟨_, rfl⟩
  rw [hW] at hP HX3 ⊢
  clear hW
  have HZ := Lib.hid (HEQ.out X3 _ _ [1, 2, 3, 4, 4] rfl (HQ8.out.2.below HX3.out) hP)
  clear hP
  refine wpMix_r ?_
  simp only [pickO, List.map_cons, List.map_nil, List.getElem?_toArray, List.getElem?_cons_succ, List.getElem?_cons_zero, Option.getD_some]
  go_wp2_with fail
  refine HZ.out.mono ?_
  rintro e X4 ⟨rfl, hbc⟩
  go_wp2_with fail
  refine mixQ_ok hbc ?_
  have HX4 := Lib.hid (bstep HX3.out hbc)
  clear hbc HZ
  refine wpMix_q ?_
  simp only [pickO, List.map_cons, List.map_nil, List.getElem?_toArray, List.getElem?_cons_succ, List.getElem?_cons_zero, Option.getD_some]
  haveI := cv_some X4
  have x0 : ∀ u : Cv X4, u.x.cell? ⟨b5, 0, none⟩ = some (.bool false) := fun u => (HP8.out.below (bstep HX4.out u.h)).at 0 _ rfl
  have x1 : ∀ u : Cv X4, u.x.cell? ⟨b5, 1, none⟩ = some (.string (mg 32)) := fun u => (HP8.out.below (bstep HX4.out u.h)).at 1 _ rfl
  iterate 3 (go_big_quiet_step (fail))
  refine wpQuiet_nil ?_
  clear this x0 x1
  refine wpMix_r ?_
  simp only [pickO, List.map_cons, List.map_nil, List.getElem?_toArray, List.getElem?_cons_succ, List.getElem?_cons_zero, Option.getD_some]
  go_wp2_with fail
  refine (HO32.out _).mono ?_
  rintro e X5 ⟨rfl, hbc⟩
  go_wp2_with fail
  refine mixQ_ok hbc ?_
  have HX5 := Lib.hid (bstep HX4.out hbc)
  clear hbc
  refine wpMix_q ?_
  simp only [pickO, List.map_cons, List.map_nil, List.getElem?_toArray, List.getElem?_cons_succ, List.getElem?_cons_zero, Option.getD_some]
  haveI := cv_some X5
  have x0 : ∀ u : Cv X5, u.x.cell? ⟨b7, 0, none⟩ = some (.bool false) := fun u => (HR8.out.below (bstep HX5.out u.h)).at 0 _ rfl
  have x1 : ∀ u : Cv X5, u.x.cell? ⟨b7, 1, none⟩ = some (.string (mg 2)) := fun u => (HR8.out.below (bstep HX5.out u.h)).at 1 _ rfl
  iterate 4 (go_big_quiet_step (fail))
  refine wpQuiet_nil ?_
  clear this x0 x1
  refine wpMix_r ?_
  simp only [pickO, List.map_cons, List.map_nil, List.getElem?_toArray, List.getElem?_cons_succ, List.getElem?_cons_zero, Option.getD_some]
  go_wp2_with fail
  refine (HO2.out _).mono ?_
  rintro e X6 ⟨rfl, hbc⟩
  go_wp2_with fail
  refine mixQ_ok hbc ?_
  have HX6 := Lib.hid (bstep HX5.out hbc)
  clear hbc
  refine wpMix_q ?_
  simp only [pickO, List.map_cons, List.map_nil, List.getElem?_toArray, List.getElem?_cons_succ, List.getElem?_cons_zero, Option.getD_some]
  haveI := cv_some X6
  iterate 2 (go_big_quiet_step (fail))
  refine wpQuiet_nil ?_
  clear this
  refine wpMix_nil ?_
  simp only [pickO, List.map_cons, List.map_nil, List.getElem?_toArray, List.getElem?_cons_succ, List.getElem?_cons_zero, Option.getD_some]
  go_wp2
  go_ret
  exact ⟨rfl, bstep HB8.out HX6.out⟩
end Go.Proofs.Gv
