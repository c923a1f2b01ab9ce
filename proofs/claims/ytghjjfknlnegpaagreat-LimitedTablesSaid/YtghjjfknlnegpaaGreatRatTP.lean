/- groovelaw39.awake: the witness. -/
import Derived.Test.YtghjjfknlnegpaaGreatLln
import Derived.Test.YtghjjfknlnegpaaGreatHawkP
import Derived.Test.YtghjjfknlnegpaaGreatHordP
import Derived.Test.YtghjjfknlnegpaaGreatLim3P
import Derived.Test.YtghjjfknlnegpaaGreatHuf
import Derived.Test.YtghjjfknlnegpaaGreatHmapP
import Derived.Test.YtghjjfknlnegpaaGreatDivmemP
import Derived.Test.YtghjjfknlnegpaaGreatIntDP
import Derived.Test.YtghjjfknlnegpaaGreatHslP
import Derived.Test.YtghjjfknlnegpaaGreatGreatP
import Derived.Lib.SlTrimSet
import Derived.Test.YtghjjfknlnegpaaGreatShortP
import Derived.Test.YtghjjfknlnegpaaGreatAddP
import Derived.Test.YtghjjfknlnegpaaGreatShelf
import Derived.Shelf.Strings.SlTrimAscii
import Derived.Lib.ConvBytes
set_option linter.unusedSimpArgs false
set_option linter.unusedVariables false
namespace Go.Proofs.Gv
open Go Go.RowKit Go.Maps

@[go_sem] theorem run_max4z {P : Program} {w : World} (ts : Array TypeId) (t : TypeId) : (Builtin.max_ ts t #[.int .i64 0, .int .i64 0, .int .i64 0, .int .i64 0]).run P w = .ok (.int .i64 0) w := by
  first
  | rfl
  | simp [Builtin.max_, go_sem]
def E5 : List Nat := [8, 4, 2, 1, 1]
theorem e5a : limL E5 3 = [1, 3, 3, 3, 3] := by decide +kernel
theorem e5b : limL E5 4 = [1, 2, 3, 4, 4] := by decide +kernel
theorem e5c : limC E5 3 = 32 := by decide +kernel
theorem e5d : hufC E5 = 30 := by
  have h1 : lenH 2 E5 = [1, 2, 3, 4, 4] := by decide +kernel
  unfold hufC
  rw [h1]
  decide
theorem e5k : chkW (VL E5) = 0 := chkW_VL (by decide) (by decide)
theorem e5e : limE (VL E5) 3 = 0 := by unfold limE; rw [if_neg (by rw [e5k]; simp), if_neg (by decide), if_neg (by rw [VL_len]; decide)]
theorem e5f : limE (VL E5) 4 = 0 := by unfold limE; rw [if_neg (by rw [e5k]; simp), if_neg (by decide), if_neg (by rw [VL_len]; decide)]
theorem e5z : ∀ x ∈ VL E5, x.2.size ≤ 8 := fun x hx => by
  unfold VL at hx
  obtain ⟨z, hz, rfl⟩ := List.mem_map.1 hx
  have hz4 : z ≤ 8 := by simp [E5] at hz; omega
  exact Nat.le_trans (size_mg (n := z) (k := 1) (by omega)) (by decide)
theorem Sl.of_bc {W : World} {g : Nat} {L : List (Bool × ByteArray)} (h : BC W g (inV L)) : Sl W (Option.some ⟨g, 0, none⟩) L := fun i b s hi => by
  obtain ⟨h0, h1⟩ := inV_at9 L i b s hi
  have hadd : ∀ j, (⟨g, 0, none⟩ : Addr).add j = ⟨g, j, none⟩ := fun j => by unfold Addr.add; split <;> simp_all
  exact ⟨_, rfl, by rw [hadd]; exact h.at _ _ h0, by rw [hadd]; exact h.at _ _ h1⟩
set_option maxRecDepth 100000 in
set_option maxHeartbeats 1600000 in
theorem example39_any (w : World) : Calls Tryz.prog 19 #[] w fun e w' => ∃ g, e = .returned (.slice (some ⟨g, 0, none⟩) 5 5) ∧ Sl w' (some ⟨g, 0, none⟩) (VL E5) ∧ Below w.heap.size w w' := by
  have HOF := Lib.hid (fun (k : Nat) (hk : k < 1000) W => show Calls Tryz.prog 23 #[.int .i64 (k : Int)] W fun e w' => e = .returned (.agg #[.bool false, .string (mg k)]) ∧ Below W.heap.size W w' from by
    have := cOf (k : Int) (by omega) (by omega) W
    rwa [Int.natAbs_natCast, show sgn (k : Int) = false from decide_eq_false (by omega)] at this)
  go_enter Tryz.func19, Tryz.ntmps19
  go_wp2_with fail
  refine (HOF.out 8 (by decide) _).mono ?_
  rintro e w1 ⟨rfl, hb1⟩
  go_wp2_with fail
  refine (HOF.out 4 (by decide) _).mono ?_
  rintro e w2 ⟨rfl, hb2⟩
  go_wp2_with fail
  refine (HOF.out 2 (by decide) _).mono ?_
  rintro e w3 ⟨rfl, hb3⟩
  go_wp2_with fail
  refine (HOF.out 1 (by decide) _).mono ?_
  rintro e w4 ⟨rfl, hb4⟩
  go_wp2_with fail
  refine (HOF.out 1 (by decide) _).mono ?_
  rintro e w5 ⟨rfl, hb5⟩
  have HB := Lib.hid (bstep (bstep (bstep (bstep hb1 hb2) hb3) hb4) hb5)
  clear hb1 hb2 hb3 hb4 hb5
  go_wp2
  go_ret
  exact ⟨w5.heap.size, rfl, Sl.of_bc (BC.new w5 w5.heap.size #[.bool false, .string (mg 8), .bool false, .string (mg 4), .bool false, .string (mg 2), .bool false, .string (mg 1), .bool false, .string (mg 1)] 29 rfl), HB.out.alloc HB.out.size _⟩
theorem lenE5 (m : Int) (out : List Nat) (hm : (Lit.int .i64 m).wf = true) (h0 : limE (VL E5) m = 0) (ho : limL E5 m.toNat = out) (g : Nat) (W : World) (hS : Sl W (some ⟨g, 0, none⟩) (VL E5)) :
    Calls Tryz.prog 18 #[.slice (some ⟨g, 0, none⟩) 5 5, .int .i64 m] W fun e w' => ∃ q, e = .returned (.tuple #[.slice (some ⟨q, 0, none⟩) 5 5, .int .i64 0]) ∧ BC w' q (natV out) ∧ Below W.heap.size W w' := by
  refine (Lengths39_any 5 (some ⟨g, 0, none⟩) (VL E5) m (by decide) (by unfold maxLen; decide) (.inl (by decide)) e5z hm W hS).mono ?_
  rintro e w' ⟨-, h, hb⟩
  obtain ⟨Ws, q, e1, rfl, hq⟩ := h h0
  obtain rfl := VL_inj e1
  rw [ho] at hq
  exact ⟨q, rfl, hq, hb⟩
theorem cosE5 (g : Nat) (W : World) (hS : Sl W (some ⟨g, 0, none⟩) (VL E5)) :
    Calls Tryz.prog 20 #[.slice (some ⟨g, 0, none⟩) 5 5, .int .i64 3] W fun e w' => e = .returned (.tuple #[.agg #[.bool false, .string (mg 32)], .int .i64 0]) ∧ Below W.heap.size W w' := by
  refine (Cost39_any 5 (some ⟨g, 0, none⟩) (VL E5) 3 (by decide) (by unfold maxLen; decide) (.inl (by decide)) e5z (by decide) W hS).mono ?_
  rintro e w' ⟨-, h, hb⟩
  obtain ⟨Ws, e1, rfl⟩ := h e5e
  obtain rfl := VL_inj e1
  exact ⟨by rw [show (3 : Int).toNat = 3 from rfl, e5c], hb⟩
theorem penE5 (g : Nat) (W : World) (hS : Sl W (some ⟨g, 0, none⟩) (VL E5)) :
    Calls Tryz.prog 21 #[.slice (some ⟨g, 0, none⟩) 5 5, .int .i64 3] W fun e w' => e = .returned (.tuple #[.agg #[.bool false, .string (mg 2)], .int .i64 0]) ∧ Below W.heap.size W w' := by
  refine (Penalty39_any 5 (some ⟨g, 0, none⟩) (VL E5) 3 (by decide) (by unfold maxLen; decide) (.inl (by decide)) e5z (by decide) W hS).mono ?_
  rintro e w' ⟨-, h, hb⟩
  obtain ⟨Ws, e1, rfl⟩ := h e5e
  obtain rfl := VL_inj e1
  exact ⟨by rw [show (3 : Int).toNat = 3 from rfl, e5c, e5d]; rfl, hb⟩
set_option maxRecDepth 100000 in
theorem eqN9 {W : World} {g p : Nat} {xs : List Nat} (hl : xs.length = 5) (hu : BC W g (natV xs)) (hv : BC W p (natV xs)) :
    Calls Tryz.prog 22 #[.slice (some ⟨g, 0, none⟩) 5 5, .slice (some ⟨p, 0, none⟩) 5 5] W fun e w' => e = .returned (.bool true) ∧ Below W.heap.size W w' := by
  have h := eqInt_any (W0 := W) (n := 5) (c := 5) (c2 := 5) (xs := xs.map fun (k : Nat) => (k : Int)) (ys := xs.map fun (k : Nat) => (k : Int)) (by rw [List.length_map]; exact hl) (by rw [List.length_map]; exact hl) (by decide) (fun i x hi => hu.at i x (by rw [natV_ints]; exact hi)) (fun i x hi => hv.at i x (by rw [natV_ints]; exact hi))
  have e : ((xs.map fun (k : Nat) => (k : Int)) == xs.map fun (k : Nat) => (k : Int)) = true := beq_self_eq_true (xs.map fun (k : Nat) => (k : Int))
  rw [e] at h
  exact h
set_option maxRecDepth 100000 in
set_option maxHeartbeats 4000000 in
theorem awake39_any (w : World) : Calls Tryz.prog 9 #[] w fun e w' => e = .returned (.bool true) ∧ Below w.heap.size w w' := by
  have HEX := Lib.hid (fun W => example39_any W)
  have HL3 := Lib.hid (fun g W hS => lenE5 3 [1, 3, 3, 3, 3] (by decide) e5e e5a g W hS)
  have HL4 := Lib.hid (fun g W hS => lenE5 4 [1, 2, 3, 4, 4] (by decide) e5f e5b g W hS)
  have HCO := Lib.hid (fun g W hS => cosE5 g W hS)
  have HPE := Lib.hid (fun g W hS => penE5 g W hS)
  have HEQ := Lib.hid (fun W g p xs hl hu hv => @eqN9 W g p xs hl hu hv)
  have HO32 := Lib.hid (fun W => show Calls Tryz.prog 23 #[.int .i64 32] W fun e w' => e = .returned (.agg #[.bool false, .string (mg 32)]) ∧ Below W.heap.size W w' from cOf 32 (by decide) (by decide) W)
  have HO2 := Lib.hid (fun W => show Calls Tryz.prog 23 #[.int .i64 2] W fun e w' => e = .returned (.agg #[.bool false, .string (mg 2)]) ∧ Below W.heap.size W w' from cOf 2 (by decide) (by decide) W)
  have hm1 : eqI false (mg 32) false (mg 32) = true := eqI_iff.2 ⟨rfl, rfl⟩
  have hm2 : eqI false (mg 2) false (mg 2) = true := eqI_iff.2 ⟨rfl, rfl⟩
  go_enter Tryz.func9, Tryz.ntmps9
  go_wp2_with fail
  refine (HEX.out _).mono ?_
  rintro e w1 ⟨g1, rfl, hs, hb⟩
  have HB1 := Lib.hid hb
  have HX := Lib.hid (HL3.out g1 w1 hs)
  clear hb hs
  go_wp2_with fail
  refine HX.out.mono ?_
  rintro e w2 ⟨q1, rfl, hq, hb⟩
  have HQ1 := Lib.hid hq
  have HB2 := Lib.hid (bstep HB1.out hb)
  clear HX HB1 hb hq
  go_wp2_with fail
  refine (HEX.out _).mono ?_
  rintro e w3 ⟨g2, rfl, hs, hb⟩
  have HB3 := Lib.hid (bstep HB2.out hb)
  have HX := Lib.hid (HL4.out g2 w3 hs)
  have HQ3 := Lib.hid (HQ1.out.below hb)
  clear hb hs HB2 HQ1
  go_wp2_with fail
  refine HX.out.mono ?_
  rintro e w4 ⟨q2, rfl, hq, hb⟩
  have HQ1 := Lib.hid (HQ3.out.below hb)
  have HQ2 := Lib.hid hq
  have HB4 := Lib.hid (bstep HB3.out hb)
  clear HX HB3 hb hq HQ3
  go_wp2_with fail
  refine (HEX.out _).mono ?_
  rintro e w5 ⟨g3, rfl, hs, hb⟩
  have HB5 := Lib.hid (bstep HB4.out hb)
  have HX := Lib.hid (HCO.out g3 w5 hs)
  have HQ5 := Lib.hid (And.intro (HQ1.out.below hb) (HQ2.out.below hb))
  clear hb hs HB4 HQ1 HQ2
  go_wp2_with fail
  refine HX.out.mono ?_
  rintro e w6 ⟨rfl, hb⟩
  have hal : Below w6.heap.size w6 (w6.alloc (.cells #[.bool false, .string (mg 32)] 29)) := (Below.refl _ _).alloc (Nat.le_refl _) _
  have hst := hb.trans (hal.mono hb.size)
  have HB6 := Lib.hid (bstep HB5.out hst)
  have HQ6 := Lib.hid (And.intro (HQ5.out.1.below hst) (HQ5.out.2.below hst))
  have HP6 := Lib.hid (BC.new w6 w6.heap.size #[.bool false, .string (mg 32)] 29 rfl)
  clear hb hal hst HX HB5 HQ5
  go_wp2_with fail
  obtain ⟨b5, hb5⟩ : ∃ b, w6.heap.size = b := ⟨_, rfl⟩
  rw [hb5] at HP6 ⊢
  obtain ⟨Y6, hY6⟩ : ∃ X, w6.alloc (.cells #[.bool false, .string (mg 32)] 29) = X := ⟨_, rfl⟩
  rw [hY6] at HB6 HQ6 HP6 ⊢
  clear hY6 hb5
  refine (HEX.out _).mono ?_
  rintro e w7 ⟨g4, rfl, hs, hb⟩
  have HB7 := Lib.hid (bstep HB6.out hb)
  have HX := Lib.hid (HPE.out g4 w7 hs)
  have HQ7 := Lib.hid (And.intro (HQ6.out.1.below hb) (HQ6.out.2.below hb))
  have HP7 := Lib.hid (HP6.out.below hb)
  clear hb hs HB6 HQ6 HP6
  go_wp2_with fail
  refine HX.out.mono ?_
  rintro e w8 ⟨rfl, hb⟩
  have hal : Below w8.heap.size w8 (w8.alloc (.cells #[.bool false, .string (mg 2)] 29)) := (Below.refl _ _).alloc (Nat.le_refl _) _
  have hst := hb.trans (hal.mono hb.size)
  have HB8 := Lib.hid (bstep HB7.out hst)
  have HQ8 := Lib.hid (And.intro (HQ7.out.1.below hst) (HQ7.out.2.below hst))
  have HP8 := Lib.hid (HP7.out.below hst)
  have HR8 := Lib.hid (BC.new w8 w8.heap.size #[.bool false, .string (mg 2)] 29 rfl)
  clear hb hal hst HX HB7 HQ7 HP7
  go_wp2_with fail
  obtain ⟨b7, hb7⟩ : ∃ b, w8.heap.size = b := ⟨_, rfl⟩
  rw [hb7] at HR8 ⊢
  obtain ⟨Y8, hY8⟩ : ∃ X, w8.alloc (.cells #[.bool false, .string (mg 2)] 29) = X := ⟨_, rfl⟩
  rw [hY8] at HB8 HQ8 HP8 HR8 ⊢
  clear hY8 hb7
  refine wp_region_mix [.q [0, 1, 2, 3, 4, 5, 6, 7], .r 8, .r 9, .q [10, 11, 12], .r 13, .r 14, .q [15, 16, 17], .r 18, .q [19, 20, 21, 22], .r 23, .q [24, 25]] [26] (by kernel_rfl) (by kernel_rfl) (by intro d v c a w h; cases d <;> exact h) ?_
  intro X0 hb hz
  have HX0 := Lib.hid hb
  clear hb hz
  refine wpMix_q ?_
  simp only [pickO, List.map_cons, List.map_nil, List.getElem?_toArray, List.getElem?_cons_succ, List.getElem?_cons_zero, Option.getD_some]
  haveI := cv_some X0
  iterate 8 (go_big_quiet_step (fail))
  refine wpQuiet_nil ?_
  clear this
  refine wpMix_r ?_
  simp only [pickO, List.map_cons, List.map_nil, List.getElem?_toArray, List.getElem?_cons_succ, List.getElem?_cons_zero, Option.getD_some]
  go_wp2_with fail
  have hP := BC.new X0 X0.heap.size #[.int .i64 1, .int .i64 3, .int .i64 3, .int .i64 3, .int .i64 3] 3 rfl
  have hab : Below X0.heap.size X0 (X0.alloc (.cells #[.int .i64 1, .int .i64 3, .int .i64 3, .int .i64 3, .int .i64 3] 3)) := (Below.refl _ X0).alloc (Nat.le_refl _) _
  refine mixQ_ok hab ?_
  have HX1 := Lib.hid (bstep HX0.out hab)
  obtain ⟨b0, hbe⟩ : ∃ b, X0.heap.size = b := ⟨_, rfl⟩
  rw [hbe] at hP ⊢
  clear hbe hab
  obtain ⟨X1, hW⟩ : ∃ W, (X0.alloc (.cells #[.int .i64 1, .int .i64 3, .int .i64 3, .int .i64 3, .int .i64 3] 3)) = W := ⟨_, rfl⟩
  rw [hW] at hP HX1 ⊢
  clear hW
  have HZ := Lib.hid (HEQ.out X1 _ _ [1, 3, 3, 3, 3] rfl (HQ8.out.1.below HX1.out) hP)
  clear hP
  refine wpMix_r ?_
  simp only [pickO, List.map_cons, List.map_nil, List.getElem?_toArray, List.getElem?_cons_succ, List.getElem?_cons_zero, Option.getD_some]
  go_wp2_with fail
  refine HZ.out.mono ?_
  rintro e X2 ⟨rfl, hbc⟩
  go_wp2_with fail
  refine mixQ_ok hbc ?_
  have HX2 := Lib.hid (bstep HX1.out hbc)
  clear hbc HZ
  refine wpMix_q ?_
  simp only [pickO, List.map_cons, List.map_nil, List.getElem?_toArray, List.getElem?_cons_succ, List.getElem?_cons_zero, Option.getD_some]
  haveI := cv_some X2
  iterate 3 (go_big_quiet_step (fail))
  refine wpQuiet_nil ?_
  clear this
  refine wpMix_r ?_
  simp only [pickO, List.map_cons, List.map_nil, List.getElem?_toArray, List.getElem?_cons_succ, List.getElem?_cons_zero, Option.getD_some]
  go_wp2_with fail
  have hP := BC.new X2 X2.heap.size #[.int .i64 1, .int .i64 2, .int .i64 3, .int .i64 4, .int .i64 4] 3 rfl
  have hab : Below X2.heap.size X2 (X2.alloc (.cells #[.int .i64 1, .int .i64 2, .int .i64 3, .int .i64 4, .int .i64 4] 3)) := (Below.refl _ X2).alloc (Nat.le_refl _) _
  refine mixQ_ok hab ?_
  have HX3 := Lib.hid (bstep HX2.out hab)
  obtain ⟨b0, hbe⟩ : ∃ b, X2.heap.size = b := ⟨_, rfl⟩
  rw [hbe] at hP ⊢
  clear hbe hab
  obtain ⟨X3, hW⟩ : ∃ W, (X2.alloc (.cells #[.int .i64 1, .int .i64 2, .int .i64 3, .int .i64 4, .int .i64 4] 3)) = W := ⟨_, rfl⟩
  rw [hW] at hP HX3 ⊢
  clear hW
  have HZ := Lib.hid (HEQ.out X3 _ _ [1, 2, 3, 4, 4] rfl (HQ8.out.2.below HX3.out) hP)
  clear hP
  refine wpMix_r ?_
  simp only [pickO, List.map_cons, List.map_nil, List.getElem?_toArray, List.getElem?_cons_succ, List.getElem?_cons_zero, Option.getD_some]
  go_wp2_with fail
  refine HZ.out.mono ?_
  rintro e X4 ⟨rfl, hbc⟩
  go_wp2_with fail
  refine mixQ_ok hbc ?_
  have HX4 := Lib.hid (bstep HX3.out hbc)
  clear hbc HZ
  refine wpMix_q ?_
  simp only [pickO, List.map_cons, List.map_nil, List.getElem?_toArray, List.getElem?_cons_succ, List.getElem?_cons_zero, Option.getD_some]
  haveI := cv_some X4
  have x0 : ∀ u : Cv X4, u.x.cell? ⟨b5, 0, none⟩ = some (.bool false) := fun u => (HP8.out.below (bstep HX4.out u.h)).at 0 _ rfl
  have x1 : ∀ u : Cv X4, u.x.cell? ⟨b5, 1, none⟩ = some (.string (mg 32)) := fun u => (HP8.out.below (bstep HX4.out u.h)).at 1 _ rfl
  iterate 3 (go_big_quiet_step (fail))
  refine wpQuiet_nil ?_
  clear this x0 x1
  refine wpMix_r ?_
  simp only [pickO, List.map_cons, List.map_nil, List.getElem?_toArray, List.getElem?_cons_succ, List.getElem?_cons_zero, Option.getD_some]
  go_wp2_with fail
  refine (HO32.out _).mono ?_
  rintro e X5 ⟨rfl, hbc⟩
  go_wp2_with fail
  refine mixQ_ok hbc ?_
  have HX5 := Lib.hid (bstep HX4.out hbc)
  clear hbc
  refine wpMix_q ?_
  simp only [pickO, List.map_cons, List.map_nil, List.getElem?_toArray, List.getElem?_cons_succ, List.getElem?_cons_zero, Option.getD_some]
  haveI := cv_some X5
  have x0 : ∀ u : Cv X5, u.x.cell? ⟨b7, 0, none⟩ = some (.bool false) := fun u => (HR8.out.below (bstep HX5.out u.h)).at 0 _ rfl
  have x1 : ∀ u : Cv X5, u.x.cell? ⟨b7, 1, none⟩ = some (.string (mg 2)) := fun u => (HR8.out.below (bstep HX5.out u.h)).at 1 _ rfl
  iterate 4 (go_big_quiet_step (fail))
  refine wpQuiet_nil ?_
  clear this x0 x1
  refine wpMix_r ?_
  simp only [pickO, List.map_cons, List.map_nil, List.getElem?_toArray, List.getElem?_cons_succ, List.getElem?_cons_zero, Option.getD_some]
  go_wp2_with fail
  refine (HO2.out _).mono ?_
  rintro e X6 ⟨rfl, hbc⟩
  go_wp2_with fail
  refine mixQ_ok hbc ?_
  have HX6 := Lib.hid (bstep HX5.out hbc)
  clear hbc
  refine wpMix_q ?_
  simp only [pickO, List.map_cons, List.map_nil, List.getElem?_toArray, List.getElem?_cons_succ, List.getElem?_cons_zero, Option.getD_some]
  haveI := cv_some X6
  iterate 2 (go_big_quiet_step (fail))
  refine wpQuiet_nil ?_
  clear this
  refine wpMix_nil ?_
  simp only [pickO, List.map_cons, List.map_nil, List.getElem?_toArray, List.getElem?_cons_succ, List.getElem?_cons_zero, Option.getD_some]
  go_wp2
  go_ret
  exact ⟨rfl, bstep HB8.out HX6.out⟩
end Go.Proofs.Gv

namespace Go.Proofs.Gv
open Go Go.RowKit Go.Maps

theorem wf_m {m : Nat} (h : m ≤ 64) : (Lit.int .i64 (m : Int)).wf = true := by
  have h1 : IntKind.i64.min = -9223372036854775808 := by decide
  have h3 : IntKind.i64.max = 9223372036854775807 := by decide
  simp [Lit.wf, h1, h3]
  omega
end Go.Proofs.Gv

namespace Go.Proofs.Gv

/- Lengths in order: the cost of pairs. -/
/-- What lengths take at depth M. -/
def krL (M : Nat) (d : List Nat) : Nat := (d.map fun x => 2 ^ (M - x)).sum
end Go.Proofs.Gv

namespace Go.Proofs.Gv

theorem putA_get : ∀ (A G out : List Nat), A.Nodup → A.length = G.length → (∀ o ∈ A, o < out.length) → A.map ((putA out A G).getD · 0) = G ∧ ∀ o, o ∉ A → (putA out A G)[o]? = out[o]?
  | [], [], out, _, _, _ => ⟨rfl, fun _ _ => rfl⟩
  | [], g :: G, out, _, h, _ => by cases h
  | a :: A, [], out, _, h, _ => by cases h
  | a :: A, g :: G, out, hn, hl, hb => by
    rw [List.nodup_cons] at hn
    obtain ⟨h1, h2⟩ := putA_get A G (out.set a g) hn.2 (by simpa using hl) (fun o ho => by rw [List.length_set]; exact hb o (List.mem_cons_of_mem _ ho))
    refine ⟨?_, fun o ho => ?_⟩
    · show (putA (out.set a g) A G).getD a 0 :: A.map ((putA (out.set a g) A G).getD · 0) = g :: G
      rw [h1, List.getD_eq_getElem?_getD, h2 a hn.1, List.getElem?_set_self (hb a (List.mem_cons_self ..))]
      rfl
    · show (putA (out.set a g) A G)[o]? = out[o]?
      rw [h2 o (fun h => ho (List.mem_cons_of_mem _ h)), List.getElem?_set_ne (fun e => ho (by subst e; exact List.mem_cons_self ..))]
theorem limG {Ws : List Nat} {m : Nat} (h : Ws.length ≤ 2 ^ m) : tb (owL Ws) Ws.length m 1 0 = some (limC Ws m) ∧ (ordL Ws).map ((limL Ws m).getD · 0) = lenG (owL Ws) Ws.length m 0 1 0 := by
  have hs := tb_some (owL Ws) Ws.length m 1 0 (Nat.zero_le _) (by omega)
  refine ⟨?_, ?_⟩
  · unfold limC
    cases hx : tb (owL Ws) Ws.length m 1 0 with
    | none => exact absurd hx hs
    | some x => rfl
  · unfold limL
    exact (putA_get _ _ _ (ordL_nodup Ws) (by rw [ordL_len, lenG_len _ _ _ _ _ _ (Nat.zero_le _) hs, Nat.sub_zero]) (fun o ho => by rw [List.length_replicate]; exact ordL_lt ho)).1
theorem krL_up (m : Nat) : ∀ l : List Nat, (∀ d ∈ l, d ≤ m) → krL (m + 1) l = 2 * krL m l
  | [], _ => rfl
  | d :: l, h => by
    have ih := krL_up m l fun y hy => h y (List.mem_cons_of_mem _ hy)
    have hd := h d (List.mem_cons_self ..)
    show 2 ^ (m + 1 - d) + krL (m + 1) l = 2 * (2 ^ (m - d) + krL m l)
    rw [ih, show m + 1 - d = m - d + 1 by omega, Nat.pow_succ]
    omega
end Go.Proofs.Gv

namespace Go.Proofs.Gv
/-- n / d in lowest terms, for a positive d -/
theorem low_num {n d : Int} (hd : 0 < d) : DivSpec n (Nat.gcd n.natAbs d.natAbs : Nat) (Rat.divInt n d).num 0 := by
  have hg : 0 < Nat.gcd n.natAbs d.natAbs := Nat.gcd_pos_of_pos_right _ (by omega)
  refine ⟨?_, .inl ⟨by decide, by omega⟩⟩
  rw [Rat.num_divInt, Int.sign_eq_one_of_pos hd, Int.one_mul, Int.add_zero]
  have e : d.gcd n = Nat.gcd n.natAbs d.natAbs := by rw [Int.gcd, Nat.gcd_comm]
  rw [e, Int.ediv_mul_cancel]
  exact Int.ofNat_dvd_left.2 (Nat.gcd_dvd_left _ _)
theorem low_den {n d : Int} (hd : 0 < d) : DivSpec d (Nat.gcd n.natAbs d.natAbs : Nat) (Rat.divInt n d).den 0 := by
  have hg : 0 < Nat.gcd n.natAbs d.natAbs := Nat.gcd_pos_of_pos_right _ (by omega)
  refine ⟨?_, .inl ⟨by decide, by omega⟩⟩
  rw [Rat.den_divInt, if_neg (by omega), Int.add_zero]
  have e : d.gcd n = Nat.gcd n.natAbs d.natAbs := by rw [Int.gcd, Nat.gcd_comm]
  rw [e, ← Int.natCast_mul, Nat.div_mul_cancel (Nat.gcd_dvd_right _ _)]
  omega
theorem low_neg (n d : Int) : Rat.divInt (-n) (-d) = Rat.divInt n d := Rat.neg_divInt_neg n d
theorem low_self (q : Rat) : Rat.divInt q.num q.den = q := Rat.num_divInt_den q
theorem den0 (q : Rat) : (q.den : Int) ≠ 0 := by have := q.den_pos; omega
theorem q_add (a b : Rat) : Rat.divInt (a.num * b.den + b.num * a.den) (a.den * b.den) = a + b := by
  rw [← Rat.divInt_add_divInt _ _ (den0 a) (den0 b), low_self, low_self]
theorem q_quo (a b : Rat) : Rat.divInt (a.num * b.den) (a.den * b.num) = a / b := by
  rw [← Rat.divInt_mul_divInt, low_self, Rat.div_def, Rat.inv_def]
theorem q_neg_num (a : Rat) : (-a).num = -a.num := rfl
/-- how two numbers compare -/
def cmpQ (a b : Rat) : Int := cmpI (a.num * b.den) (b.num * a.den)
theorem cmpQ_lt {a b : Rat} : a < b ↔ a.num * b.den < b.num * a.den := Rat.lt_iff a b
theorem cmpQ_cases (a b : Rat) : (a < b ∧ cmpQ a b = -1 ∧ cmpQ b a = 1) ∨ (a = b ∧ cmpQ a b = 0 ∧ cmpQ b a = 0) ∨ (b < a ∧ cmpQ a b = 1 ∧ cmpQ b a = -1) := by
  unfold cmpQ cmpI
  have h1 := @cmpQ_lt a b
  have h2 := @cmpQ_lt b a
  have h3 : a = b ↔ ¬ a < b ∧ ¬ b < a := by
    constructor
    · rintro rfl; exact ⟨Rat.lt_irrefl, Rat.lt_irrefl⟩
    · rintro ⟨h, h'⟩; exact Rat.le_antisymm (Rat.not_lt.1 h') (Rat.not_lt.1 h)
  rw [h3, h1, h2]
  split
  · rename_i h
    rw [if_neg (by omega)]
    exact .inl ⟨h, rfl, rfl⟩
  · split
    · rename_i h h'; exact .inr (.inr ⟨h', rfl, rfl⟩)
    · rename_i h h'; exact .inr (.inl ⟨⟨h, h'⟩, rfl, rfl⟩)
theorem q_addInt_num (z : Rat) (f : Int) : ((f : Rat) + z).num = f * z.den + z.num ∧ ((f : Rat) + z).den = z.den := by
  have hc : Nat.Coprime (f * z.den + z.num).natAbs z.den := by
    have h : Int.gcd (f * z.den + z.num) z.den = 1 := by
      rw [Int.add_comm, Int.gcd_add_mul_right_left]
      exact z.reduced
    exact h
  have e : (f : Rat) + z = ⟨f * z.den + z.num, z.den, z.den_nz, hc⟩ := by
    rw [Rat.mk_eq_divInt, ← q_add]
    congr 1
    · rw [Rat.num_intCast, Rat.den_intCast]; omega
    · rw [Rat.den_intCast]; omega
  rw [e]; exact ⟨rfl, rfl⟩
theorem q_inv_num {z : Rat} (h : 0 < z) : (z⁻¹).num = z.den ∧ ((z⁻¹).den : Int) = z.num := by
  have hn : 0 < z.num := by simpa [Rat.lt_iff] using h
  rw [Rat.num_inv, Rat.den_inv, if_neg (by omega), Int.sign_eq_one_of_pos hn]
  constructor <;> omega
theorem q_inv_lt {x y : Rat} (hx : 0 < x) (hy : 0 < y) : x⁻¹ ≤ y⁻¹ ↔ y ≤ x := by
  have h1 := q_inv_num hx
  have h2 := q_inv_num hy
  rw [Rat.le_iff, Rat.le_iff, h1.1, h1.2, h2.1, h2.2, Int.mul_comm y.num, Int.mul_comm x.num]

/-- what holds of the bounds where neither is reached -/
theorem sim_step {a b : Rat} (h0 : 0 < a) (hab : a ≤ b) (h1 : (a.floor : Rat) ≠ a) (h2 : ¬ ((a.floor + 1 : Int) : Rat) ≤ b) :
    0 ≤ a.floor ∧ (a.floor : Rat) < a ∧ b < (a.floor : Rat) + 1 ∧ 0 < (b - a.floor)⁻¹ ∧ (b - a.floor)⁻¹ ≤ (a - a.floor)⁻¹ ∧
      ((b - a.floor)⁻¹).den < b.den ∧ ((a - a.floor)⁻¹).den < a.den := by
  have hf : (a.floor : Rat) < a := Rat.lt_of_le_of_ne (Rat.floor_le a) h1
  have hb : b < (a.floor : Rat) + 1 := by
    have := Rat.not_le.1 h2
    rwa [Rat.intCast_add, Rat.intCast_one] at this
  have ha1 : a < (a.floor : Rat) + 1 := by grind
  have pa : 0 < a - a.floor := by grind
  have pb : 0 < b - a.floor := by grind
  have key : ∀ x : Rat, 0 < x - a.floor → x < (a.floor : Rat) + 1 → ((x - a.floor)⁻¹).den < x.den := by
    intro x hx hx1
    have hn := (q_inv_num hx).2
    have h3 : x - a.floor = ((-a.floor : Int) : Rat) + x := by rw [Rat.intCast_neg]; grind
    have h4 := q_addInt_num x (-a.floor)
    have h5 : x - a.floor < ((1 : Int) : Rat) := by rw [Rat.intCast_one]; grind
    rw [Rat.lt_iff, Rat.den_intCast, Rat.num_intCast, h3, h4.1, h4.2] at h5
    rw [h3, h4.1] at hn
    rw [h3]
    omega
  refine ⟨?_, hf, hb, Rat.inv_pos.2 pb, (q_inv_lt pb pa).2 (by grind), key b pb hb, key a pa ha1⟩
  rw [Rat.le_floor_iff, Rat.intCast_zero]
  exact Rat.le_of_lt h0

end Go.Proofs.Gv

namespace Go.Proofs.Gv
/-- above and below less than 2 ^ N -/
structure Qb (N : Nat) (q : Rat) : Prop where
  up : q.num.natAbs < 2 ^ N
  lo : q.den < 2 ^ N
theorem Qb.mono {N M : Nat} {q : Rat} (h : Qb N q) (hNM : N ≤ M) : Qb M q :=
  have := Nat.pow_le_pow_right (show 0 < 2 by decide) hNM
  ⟨Nat.lt_of_lt_of_le h.up this, Nat.lt_of_lt_of_le h.lo this⟩
theorem div_num_le (n d : Int) : (Rat.divInt n d).num.natAbs ≤ n.natAbs := by
  by_cases h0 : d = 0
  · subst h0; rw [Rat.divInt_zero]; exact Nat.zero_le _
  · rw [Rat.num_divInt]
    have hg : ((d.gcd n : Nat) : Int) ∣ d.sign * n := Int.dvd_trans (Int.gcd_dvd_right ..) (Int.dvd_mul_left ..)
    obtain ⟨c, hc⟩ := hg
    have hp : 0 < d.gcd n := Int.gcd_pos_of_ne_zero_left _ h0
    rw [hc, Int.mul_ediv_cancel_left _ (by omega)]
    have e : (d.sign * n).natAbs = n.natAbs := by rw [Int.natAbs_mul, Int.natAbs_sign_of_ne_zero h0, Nat.one_mul]
    rw [hc, Int.natAbs_mul, Int.natAbs_natCast] at e
    rw [← e]
    exact Nat.le_mul_of_pos_left _ hp
theorem div_den_le (n d : Int) : (Rat.divInt n d).den ≤ max 1 d.natAbs := by
  rw [Rat.den_divInt]
  split
  · omega
  · exact Nat.le_trans (Nat.div_le_self _ _) (by omega)
theorem Qb.div {N : Nat} {n d : Int} (hn : n.natAbs < 2 ^ N) (hd : d.natAbs < 2 ^ N) (h1 : 1 ≤ N) : Qb N (Rat.divInt n d) := by
  refine ⟨Nat.lt_of_le_of_lt (div_num_le n d) hn, Nat.lt_of_le_of_lt (div_den_le n d) ?_⟩
  have := Nat.pow_le_pow_right (show 0 < 2 by decide) h1
  omega
theorem q_mul_lt {x y N M : Nat} (hx : x < 2 ^ N) (hy : y < 2 ^ M) : x * y < 2 ^ (N + M) := by
  rw [Nat.pow_add]
  have h := Nat.mul_le_mul (Nat.le_sub_one_of_lt hx) (Nat.le_sub_one_of_lt hy)
  have hp := Nat.two_pow_pos N
  have hq := Nat.two_pow_pos M
  refine Nat.lt_of_le_of_lt h ?_
  exact Nat.lt_of_le_of_lt (Nat.mul_le_mul_right _ (Nat.sub_le _ _)) (Nat.mul_lt_mul_of_pos_left (by omega) hp)
theorem imul_lt {x y : Int} {N M : Nat} (hx : x.natAbs < 2 ^ N) (hy : y.natAbs < 2 ^ M) : (x * y).natAbs < 2 ^ (N + M) := by
  rw [Int.natAbs_mul]; exact q_mul_lt hx hy
theorem iadd_lt {x y : Int} {N : Nat} (hx : x.natAbs < 2 ^ N) (hy : y.natAbs < 2 ^ N) : (x + y).natAbs < 2 ^ (N + 1) := by
  rw [Nat.pow_succ]; omega
theorem Qb.num {N : Nat} {q : Rat} (h : Qb N q) : q.num.natAbs < 2 ^ N := h.up
theorem Qb.den {N : Nat} {q : Rat} (h : Qb N q) : ((q.den : Nat) : Int).natAbs < 2 ^ N := by rw [Int.natAbs_natCast]; exact h.lo
theorem Qb.add {N M : Nat} {a b : Rat} (ha : Qb N a) (hb : Qb M b) : Qb (N + M + 1) (a + b) := by
  rw [← q_add]
  exact Qb.div (iadd_lt (imul_lt ha.num hb.den) (Nat.add_comm M N ▸ imul_lt hb.num ha.den)) (Nat.lt_trans (imul_lt ha.den hb.den) (Nat.pow_lt_pow_right (by decide) (by omega))) (by omega)
theorem Qb.neg {N : Nat} {a : Rat} (ha : Qb N a) : Qb N (-a) := ⟨by rw [q_neg_num, Int.natAbs_neg]; exact ha.up, ha.lo⟩
theorem Qb.pos {N : Nat} {a : Rat} (ha : Qb N a) : 1 ≤ N := by
  have := a.den_pos
  have h := ha.lo
  cases N with
  | zero => simp at h; omega
  | succ N => omega
theorem Qb.quo {N M : Nat} {a b : Rat} (ha : Qb N a) (hb : Qb M b) : Qb (N + M) (a / b) := by
  have := ha.pos
  rw [← q_quo]
  exact Qb.div (imul_lt ha.num hb.den) (imul_lt ha.den hb.num) (by omega)
theorem Qb.int {N : Nat} {z : Int} (h : z.natAbs < 2 ^ N) (h1 : 1 ≤ N) : Qb N (z : Rat) := by
  have := Nat.pow_le_pow_right (show 0 < 2 by decide) h1
  exact ⟨h, by rw [Rat.den_intCast]; omega⟩
theorem Qb.floor {N : Nat} {a : Rat} (ha : Qb N a) : a.floor.natAbs < 2 ^ N := by
  have h := ha.up
  rw [Rat.floor_def]
  have hp := a.den_pos
  have h1 := Int.natAbs_ediv_le_natAbs a.num a.den
  omega
end Go.Proofs.Gv

namespace Go.Proofs.Gv
open Go Go.RowKit
/-- Four cells stand for the number q. -/
structure Rq (n : Bool) (s : ByteArray) (m : Bool) (t : ByteArray) (q : Rat) : Prop where
  val : Rat.divInt (iv n s) (iv m t) = q
  s1 : s.size ≤ 20000
  s2 : t.size ≤ 20000
theorem Rq.up {n m : Bool} {s t : ByteArray} {q : Rat} (h : Rq n s m t q) : Rp n s (iv n s) := ⟨rfl, Nat.le_trans h.s1 (by decide)⟩
theorem Rq.lo {n m : Bool} {s t : ByteArray} {q : Rat} (h : Rq n s m t q) : Rp m t (iv m t) := ⟨rfl, Nat.le_trans h.s2 (by decide)⟩
theorem iv_mgN (d : Nat) : iv false (mg d) = (d : Int) := by unfold iv; simp [bv_mg]
theorem mgB {x N : Nat} (h : x < 2 ^ N) (hN : N ≤ 159000) : (mg x).size ≤ 20000 :=
  Nat.le_trans (szB ((N + 7) / 8) (Nat.lt_of_lt_of_le h (Nat.pow_le_pow_right (by decide) (by omega)))) (by omega)
/-- The cells of a result stand for it. -/
theorem Rq.V {q : Rat} {N : Nat} (h : Qb N q) (hN : N ≤ 159000) : Rq (sgn q.num) (mg q.num.natAbs) false (mg q.den) q :=
  ⟨by rw [iv_V, iv_mgN, low_self], mgB h.up hN, mgB h.lo hN⟩
theorem rp_num {q : Rat} {N : Nat} (h : Qb N q) (hN : N ≤ 7000000) : Rp (sgn q.num) (mg q.num.natAbs) q.num := Rp.V N h.up (by omega)
theorem rp_den {q : Rat} {N : Nat} (h : Qb N q) (hN : N ≤ 7000000) : Rp false (mg q.den) q.den :=
  ⟨iv_mgN _, Nat.le_trans (szB (N / 8 + 1) (Nat.lt_of_lt_of_le h.lo (Nat.pow_le_pow_right (by decide) (by omega)))) (by omega)⟩
theorem Rq.qb {n m : Bool} {s t : ByteArray} {q : Rat} {k : Nat} (h : Rq n s m t q) (h1 : s.size ≤ k) (h2 : t.size ≤ k) (hk : 1 ≤ k) : Qb (8 * k) q := by
  rw [← h.val]
  exact Qb.div (h.up.lt h1) (h.lo.lt h2) (by omega)
end Go.Proofs.Gv

namespace Go.Proofs.Gv
/-- the bounds of the next step are no longer -/
theorem Qb.step {N : Nat} {a b : Rat} (ha : Qb N a) (hb : Qb N b) (h0 : 0 < a) (hab : a ≤ b) (h1 : (a.floor : Rat) ≠ a) (h2 : ¬ ((a.floor + 1 : Int) : Rat) ≤ b) :
    Qb N (b - a.floor)⁻¹ ∧ Qb N (a - a.floor)⁻¹ := by
  obtain ⟨_, f1, f2, p1, p2, d1, d2⟩ := sim_step h0 hab h1 h2
  have key : ∀ x : Rat, 0 < x - a.floor → ((x - a.floor)⁻¹).den < x.den → Qb N x → Qb N (x - a.floor)⁻¹ := by
    intro x hx hd hq
    have hn := (q_inv_num hx).1
    have h3 : x - a.floor = ((-a.floor : Int) : Rat) + x := by rw [Rat.intCast_neg]; grind
    have h4 := (q_addInt_num x (-a.floor)).2
    have := hq.lo
    refine ⟨?_, by omega⟩
    rw [hn, h3, h4, Int.natAbs_natCast]
    exact this
  exact ⟨key b (by grind) d1 hb, key a (by grind) d2 ha⟩
end Go.Proofs.Gv

namespace Go.Proofs.Gv
/-- a pair in lowest terms -/
theorem low_iff {n d : Int} : ((Rat.divInt n d).num = n ∧ ((Rat.divInt n d).den : Int) = d) ↔ 0 < d ∧ Nat.gcd n.natAbs d.natAbs = 1 := by
  constructor
  · rintro ⟨h1, h2⟩
    have hp := (Rat.divInt n d).den_pos
    have hr := (Rat.divInt n d).reduced
    refine ⟨by omega, ?_⟩
    rw [h1] at hr
    rw [show d.natAbs = (Rat.divInt n d).den by omega]
    exact hr
  · rintro ⟨h1, h2⟩
    have a := (low_num (n := n) h1).1
    have b := (low_den (n := n) h1).1
    rw [h2] at a b
    omega
theorem divInt1 (z : Int) : (Rat.divInt z 1).num = z ∧ (Rat.divInt z 1).den = 1 := by
  have := low_iff.2 (⟨by decide, by simp⟩ : 0 < (1 : Int) ∧ Nat.gcd z.natAbs (1 : Int).natAbs = 1)
  exact ⟨this.1, by omega⟩
end Go.Proofs.Gv
