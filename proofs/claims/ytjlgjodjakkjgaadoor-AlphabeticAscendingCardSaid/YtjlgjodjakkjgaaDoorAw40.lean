/- groovelaw40.awake: the witness. -/
import Derived.Test.YtjlgjodjakkjgaaDoorAof
import Derived.Test.YtjlgjodjakkjgaaDoorMix
set_option linter.unusedSimpArgs false
set_option linter.unusedVariables false
namespace Go.Proofs.Gv
open Go Go.RowKit Go.Maps

@[go_sem] theorem run_max_zero5 {P : Program} {w : World} (ts : Array TypeId) (t : TypeId) : (Builtin.max_ ts t #[.int .i64 0, .int .i64 0, .int .i64 0, .int .i64 0, .int .i64 0]).run P w = .ok (.int .i64 0) w := by
  first
  | rfl
  | simp [Builtin.max_, go_sem]
theorem VLinj {A B : List Nat} (h : VL A = VL B) : A = B := by
  have key : ∀ l : List Nat, (VL l).map (fun x => bv x.2.data.toList) = l := fun l => by
    unfold VL
    rw [List.map_map]
    refine (List.map_congr_left fun x _ => ?_).trans (List.map_id l)
    exact bv_mg x
  rw [← key A, ← key B, h]
theorem lit_rows {W : World} {b : Nat} {p q r : Nat} {cp cq cr : Nat} (h1 : 3 ≤ cp ∧ cp ≤ maxLen) (h2 : 2 ≤ cq ∧ cq ≤ maxLen) (h3 : 1 ≤ cr ∧ cr ≤ maxLen)
    (hb : BC W b [.slice (some ⟨p, 0, none⟩) 3 cp, .slice (some ⟨q, 0, none⟩) 2 cq, .slice (some ⟨r, 0, none⟩) 1 cr])
    (hp : Sl W (some ⟨p, 0, none⟩) (VL [0, 6, 14])) (hq : Sl W (some ⟨q, 0, none⟩) (VL [0, 7])) (hr : Sl W (some ⟨r, 0, none⟩) (VL [0])) :
    RwS W (.slice (some ⟨b, 0, none⟩) 3 3) [VL [0, 6, 14], VL [0, 7], VL [0]] := by
  refine ⟨⟨b, 0, none⟩, 3, rfl, Nat.le_refl _, by unfold maxLen; decide, fun i row hi => ?_⟩
  match i, hi with
  | 0, hi => simp at hi; subst hi; exact ⟨_, cp, by rw [addr0]; exact hb.at 0 _ rfl, h1.1, h1.2, hp⟩
  | 1, hi => simp at hi; subst hi; exact ⟨_, cq, by rw [addr0]; exact hb.at 1 _ rfl, h2.1, h2.2, hq⟩
  | 2, hi => simp at hi; subst hi; exact ⟨_, cr, by rw [addr0]; exact hb.at 2 _ rfl, h3.1, h3.2, hr⟩
  | i + 3, hi => simp at hi
theorem rowLt {M : List (List (Bool × ByteArray))} {n : Nat} (h : M.all (fun r => decide (r.length ≤ n)) = true) : ∀ r ∈ M, r.length ≤ n := fun r hr => of_decide_eq_true (List.all_eq_true.1 h r hr)
set_option maxRecDepth 100000 in
set_option maxHeartbeats 4000000 in
theorem awake40_any (w : World) : Calls Tryd.prog 5 #[] w fun e w' => e = .returned (.bool true) ∧ Below w.heap.size w w' := by
  have HI := Lib.hid (of_any (.slice (some ⟨w.heap.size, 0, none⟩) 3 3) [1, 5, 2] (by decide) (by decide) (by decide) (w.alloc (.cells #[.int .i64 1, .int .i64 5, .int .i64 2] 3)) (litRow [1, 5, 2] (BC.new w w.heap.size #[.int .i64 1, .int .i64 5, .int .i64 2] 3 rfl)))
  have HB0 := Lib.hid ((Below.refl w.heap.size w).alloc (Nat.le_refl _) (.cells #[.int .i64 1, .int .i64 5, .int .i64 2] 3))
  have hzz : ∀ x ∈ VL [1, 5, 2], x.2.size ≤ 8 := fun x hx => by
    unfold VL at hx
    obtain ⟨z, hz, rfl⟩ := List.mem_map.1 hx
    have hz4 : z ≤ 5 := by simp at hz; omega
    exact Nat.le_trans (size_mg (n := z) (k := 1) (by omega)) (by decide)
  have hck : chkW (VL [1, 5, 2]) = 0 := chkV (by decide) (by decide)
  have HCK := Lib.hid hck
  have HLN := Lib.hid (fun (g c : Nat) (h1 : 3 ≤ c) (h2 : c ≤ maxLen) (W : World) (hS : Sl W (some ⟨g, 0, none⟩) (VL [1, 5, 2])) => show Calls Tryd.prog 11 #[.slice (some ⟨g, 0, none⟩) 3 c] W fun e w' => ∃ v, e = .returned (.tuple #[v, .int .i64 0]) ∧ NR2 w' v [2, 2, 1] ∧ Below W.heap.size W w' from by
    refine (Lengths_al (some ⟨g, 0, none⟩) c (VL [1, 5, 2]) h1 h2 hzz W hS).mono ?_
    rintro e w' ⟨-, h, hb⟩
    obtain ⟨Ws, v, e1, rfl, hn⟩ := h hck
    obtain rfl := VLinj e1
    rw [show ([1, 5, 2] : List Nat).length = 3 from rfl, aw40a] at hn
    exact ⟨v, rfl, hn, hb⟩)
  have HCS := Lib.hid (fun (g c : Nat) (h1 : 3 ≤ c) (h2 : c ≤ maxLen) (W : World) (hS : Sl W (some ⟨g, 0, none⟩) (VL [1, 5, 2])) => show Calls Tryd.prog 12 #[.slice (some ⟨g, 0, none⟩) 3 c] W fun e w' => e = .returned (.tuple #[.agg #[.bool false, .string (mg 14)], .int .i64 0]) ∧ Below W.heap.size W w' from by
    refine (Cost_al (some ⟨g, 0, none⟩) c (VL [1, 5, 2]) h1 h2 hzz W hS).mono ?_
    rintro e w' ⟨-, h, hb⟩
    obtain ⟨Ws, e1, rfl⟩ := h hck
    obtain rfl := VLinj e1
    rw [aw40b]
    exact ⟨rfl, hb⟩)
  have HTB := Lib.hid (fun (g c : Nat) (h1 : 3 ≤ c) (h2 : c ≤ maxLen) (W : World) (hS : Sl W (some ⟨g, 0, none⟩) (VL [1, 5, 2])) => show Calls Tryd.prog 13 #[.slice (some ⟨g, 0, none⟩) 3 c] W fun e w' => ∃ v, e = .returned (.tuple #[v, .int .i64 0]) ∧ RwS w' v (tabM [1, 5, 2]) ∧ Below W.heap.size W w' from by
    refine (Table_al (some ⟨g, 0, none⟩) c (VL [1, 5, 2]) h1 h2 hzz W hS).mono ?_
    rintro e w' ⟨-, h, hb⟩
    obtain ⟨Ws, v, e1, rfl, hn⟩ := h hck
    obtain rfl := VLinj e1
    exact ⟨v, rfl, hn, hb⟩)
  have HFT := Lib.hid (fun (b : Nat) (W : World) (hb : BC W b (natV [2, 1, 2])) => show Calls Tryd.prog 7 #[.slice (some ⟨b, 0, none⟩) 3 3] W fun e w' => e = .returned (.tuple #[.bool false, .int .i64 0]) ∧ Below W.heap.size W w' from by
    refine (Fits_al (some ⟨b, 0, none⟩) 3 (inL [2, 1, 2]) (by decide) (by unfold maxLen; decide) W (litNSl _ hb)).mono ?_
    rintro e w' ⟨h, hb⟩
    rw [if_neg (by decide +kernel), show wrd ((inL [2, 1, 2]).map Int.toNat) = none from by decide +kernel] at h
    exact ⟨h, hb⟩)
  have HCD := Lib.hid (fun (b : Nat) (W : World) (hb : BC W b (natV [1, 3, 2])) => show Calls Tryd.prog 6 #[.slice (some ⟨b, 0, none⟩) 3 3] W fun e w' => ∃ v, e = .returned (.tuple #[v, .int .i64 0]) ∧ SR w' v [⟨#[48]⟩, ⟨#[49, 48, 48]⟩, ⟨#[49, 49]⟩] ∧ Below W.heap.size W w' from by
    refine (Code_al (some ⟨b, 0, none⟩) 3 (inL [1, 3, 2]) (by decide) (by unfold maxLen; decide) W (litNSl _ hb)).mono ?_
    rintro e w' ⟨h, hb⟩
    rw [if_neg (by rw [aw40d.1]; simp), aw40d.2] at h
    obtain ⟨v, e1, h⟩ := h
    exact ⟨v, e1, h, hb⟩)
  have HOF := Lib.hid (fun (ks : List Nat) (h1 : 1 ≤ ks.length) (hk : ks.length ≤ 1000) (hb : ∀ k ∈ ks, k < 2 ^ 62) (b : Nat) (W : World) (h : BC W b (natV ks)) => of_any (.slice (some ⟨b, 0, none⟩) ks.length ks.length) ks h1 hk hb W (litRow ks h))
  have HKC := Lib.hid (fun (g c : Nat) (h1 : 3 ≤ c) (h2 : c ≤ maxLen) (T lv : Value) (W : World) (hS : Sl W (some ⟨g, 0, none⟩) (VL [1, 5, 2])) (hT : RwS W T (tabM [1, 5, 2])) (hl : NR2 W lv [2, 2, 1]) => show Calls Tryd.prog 18 #[.slice (some ⟨g, 0, none⟩) 3 c, T, lv] W fun e w' => e = .returned (.int .i64 0) ∧ Below W.heap.size W w' from by
    have := check_ok ⟨g, 0, none⟩ c [1, 5, 2] (by decide) (by decide) h1 h2 (by decide) (tabM [1, 5, 2]) (by rw [tabM_len]; decide) (by rw [aw40e]; exact rowLt (by decide +kernel)) [2, 2, 1] (by decide) T lv W hS hT hl
    rw [aw40f] at this
    exact this)
  have HO4 := Lib.hid (fun W => show Calls Tryd.prog 15 #[.int .i64 14] W fun e w' => e = .returned (.agg #[.bool false, .string (mg 14)]) ∧ Below W.heap.size W w' from rOf_any 14 W (by decide) (by decide))
  clear hzz hck
  go_enter Tryd.func5, Tryd.ntmps5
  go_wp2_with fail
  refine HI.out.mono ?_
  rintro e w1 ⟨g, c, rfl, hc1, hc2, hs, hb⟩
  have HS := Lib.hid hs
  have HB1 := Lib.hid (bstep HB0.out hb)
  have HC1 := Lib.hid (show 3 ≤ c from hc1)
  have HC2 := Lib.hid hc2
  have HX := Lib.hid (HLN.out g c hc1 hc2 w1 hs)
  clear hs hb hc1 hc2 HI
  go_wp2_with fail
  refine HX.out.mono ?_
  rintro e w2 ⟨v2, rfl, hn, hb⟩
  have HN2 := Lib.hid hn
  have HS2 := Lib.hid (HS.out.below hb)
  have HB2 := Lib.hid (bstep HB1.out hb)
  clear HX HS hn hb
  have HX := Lib.hid (HCS.out g c HC1.out HC2.out w2 HS2.out)
  go_wp2_with fail
  refine HX.out.mono ?_
  rintro e w3 ⟨rfl, hb⟩
  have hB3 := bstep HB2.out hb
  have hp := BC.new w3 w3.heap.size #[.bool false, .string (mg 14)] 38 rfl
  have hal : Below w3.heap.size w3 (w3.alloc (.cells #[.bool false, .string (mg 14)] 38)) := (Below.refl _ _).alloc (Nat.le_refl _) _
  have HS3 := Lib.hid ((HS2.out.below hb).below hal)
  have HN3 := Lib.hid ((HN2.out.below hb).below hal)
  have HB3 := Lib.hid (bstep hB3 hal)
  have HP3 := Lib.hid hp
  have HX := Lib.hid (HTB.out g c HC1.out HC2.out _ HS3.out)
  clear hb hB3 hp hal HS2 HN2
  go_wp2_with fail
  obtain ⟨B, hBB⟩ : ∃ b, w3.heap.size = b := ⟨_, rfl⟩
  rw [hBB] at HP3 ⊢
  clear hBB
  refine HX.out.mono ?_
  rintro e w4 ⟨v4, rfl, ht, hb⟩
  have HT4 := Lib.hid ht
  have HS4 := Lib.hid (HS3.out.below hb)
  have HN4 := Lib.hid (HN3.out.below hb)
  have HP4 := Lib.hid (HP3.out.below hb)
  have HB4 := Lib.hid (bstep HB3.out hb)
  clear hb ht HX HS3 HN3 HP3
  have hp := BC.new w4 w4.heap.size #[.int .i64 2, .int .i64 1, .int .i64 2] 3 rfl
  have hal : Below w4.heap.size w4 (w4.alloc (.cells #[.int .i64 2, .int .i64 1, .int .i64 2] 3)) := (Below.refl _ _).alloc (Nat.le_refl _) _
  have HX := Lib.hid (HFT.out w4.heap.size _ hp)
  have HALL := Lib.hid (And.intro (HS4.out.below hal) (And.intro (HN4.out.below hal) (And.intro (HP4.out.below hal) (And.intro (HT4.out.below hal) (bstep HB4.out hal)))))
  clear hp hal HS4 HN4 HP4 HT4 HB4
  go_wp2_with fail
  refine HX.out.mono ?_
  rintro e w5 ⟨rfl, hb⟩
  have HS5 := Lib.hid (HALL.out.1.below hb)
  have HN5 := Lib.hid (HALL.out.2.1.below hb)
  have HP5 := Lib.hid (HALL.out.2.2.1.below hb)
  have HT5 := Lib.hid (HALL.out.2.2.2.1.below hb)
  have HB5 := Lib.hid (bstep HALL.out.2.2.2.2 hb)
  clear hb HX HALL
  have hp := BC.new w5 w5.heap.size #[.int .i64 1, .int .i64 3, .int .i64 2] 3 rfl
  have hal : Below w5.heap.size w5 (w5.alloc (.cells #[.int .i64 1, .int .i64 3, .int .i64 2] 3)) := (Below.refl _ _).alloc (Nat.le_refl _) _
  have HX := Lib.hid (HCD.out w5.heap.size _ hp)
  have HALL := Lib.hid (And.intro (HS5.out.below hal) (And.intro (HN5.out.below hal) (And.intro (HP5.out.below hal) (And.intro (HT5.out.below hal) (bstep HB5.out hal)))))
  clear hp hal HS5 HN5 HP5 HT5 HB5
  go_wp2_with fail
  refine HX.out.mono ?_
  rintro e w6 ⟨v6, rfl, hsr, hb⟩
  have HS6 := Lib.hid (HALL.out.1.below hb)
  have HN6 := Lib.hid (HALL.out.2.1.below hb)
  have HP6 := Lib.hid (HALL.out.2.2.1.below hb)
  have HT6 := Lib.hid (HALL.out.2.2.2.1.below hb)
  have HB6 := Lib.hid (bstep HALL.out.2.2.2.2 hb)
  have HR6 := Lib.hid hsr
  clear hb hsr HX HALL
  have hmg : eqI false (mg 14) false (mg 14) = true := eqI_iff.2 ⟨rfl, rfl⟩
  go_wp2_with fail
  refine wp_region_mix [.q [0, 1, 2, 3, 4, 5, 6, 7, 8], .r 9, .r 10, .q [11, 12, 13], .r 14, .q [15, 16, 17, 18, 19, 20, 21, 22], .r 23, .r 24, .q [25]] [26] (by kernel_rfl) (by kernel_rfl) (by intro d v c a w h; cases d <;> exact h) ?_
  intro X0 hb hz
  have HX0 := Lib.hid hb
  clear hb hz
  refine wpMix_q ?_
  simp only [pickO, List.map_cons, List.map_nil, List.getElem?_toArray, List.getElem?_cons_succ, List.getElem?_cons_zero, Option.getD_some]
  haveI := cv_some X0
  iterate 9 (go_big_quiet_step (fail))
  refine wpQuiet_nil ?_
  clear this
  refine wpMix_r ?_
  simp only [pickO, List.map_cons, List.map_nil, List.getElem?_toArray, List.getElem?_cons_succ, List.getElem?_cons_zero, Option.getD_some]
  go_wp2_with fail
  have hP := BC.new X0 X0.heap.size #[.int .i64 2, .int .i64 2, .int .i64 1] 3 rfl
  have hab : Below X0.heap.size X0 (X0.alloc (.cells #[.int .i64 2, .int .i64 2, .int .i64 1] 3)) := (Below.refl _ X0).alloc (Nat.le_refl _) _
  refine mixQ_ok hab ?_
  have HX1 := Lib.hid (bstep HX0.out hab)
  obtain ⟨b0, hbe⟩ : ∃ b, X0.heap.size = b := ⟨_, rfl⟩
  rw [hbe] at hP ⊢
  clear hbe hab
  obtain ⟨X1, hW⟩ : ∃ W, (X0.alloc (.cells #[.int .i64 2, .int .i64 2, .int .i64 1] 3)) = W := ⟨_, rfl⟩
  rw [hW] at hP HX1 ⊢
  clear hW
  have HP := Lib.hid hP
  clear hP
  have HEQ := Lib.hid (eqNs_any (ds := [2, 2, 1]) (ys := [2, 2, 1]) (c2 := 3) (by decide) rfl (HN6.out.below HX1.out) HP.out)
  rw [show (inL [2, 2, 1] == inL [2, 2, 1]) = true from by decide +kernel] at HEQ
  refine wpMix_r ?_
  simp only [pickO, List.map_cons, List.map_nil, List.getElem?_toArray, List.getElem?_cons_succ, List.getElem?_cons_zero, Option.getD_some]
  go_wp2_with fail
  refine (HEQ.out).mono ?_
  rintro e X2 ⟨rfl, hbc⟩
  go_wp2_with fail
  refine mixQ_ok hbc ?_
  have HX2 := Lib.hid (bstep HX1.out hbc)
  clear hbc
  clear HEQ HP
  refine wpMix_q ?_
  simp only [pickO, List.map_cons, List.map_nil, List.getElem?_toArray, List.getElem?_cons_succ, List.getElem?_cons_zero, Option.getD_some]
  haveI := cv_some X2
  have x0 : ∀ u : Cv X2, u.x.cell? ⟨B, 0, none⟩ = some (.bool false) := fun u => (HP6.out.below (bstep HX2.out u.h)).at 0 _ rfl
  have x1 : ∀ u : Cv X2, u.x.cell? ⟨B, 1, none⟩ = some (.string (mg 14)) := fun u => (HP6.out.below (bstep HX2.out u.h)).at 1 _ rfl
  iterate 3 (go_big_quiet_step (fail))
  refine wpQuiet_nil ?_
  clear this x0 x1
  refine wpMix_r ?_
  simp only [pickO, List.map_cons, List.map_nil, List.getElem?_toArray, List.getElem?_cons_succ, List.getElem?_cons_zero, Option.getD_some]
  go_wp2_with fail
  refine (HO4.out _).mono ?_
  rintro e X3 ⟨rfl, hbc⟩
  go_wp2_with fail
  refine mixQ_ok hbc ?_
  have HX3 := Lib.hid (bstep HX2.out hbc)
  clear hbc
  refine wpMix_q ?_
  simp only [pickO, List.map_cons, List.map_nil, List.getElem?_toArray, List.getElem?_cons_succ, List.getElem?_cons_zero, Option.getD_some]
  haveI := cv_some X3
  iterate 8 (go_big_quiet_step (fail))
  refine wpQuiet_nil ?_
  clear this
  refine wpMix_r ?_
  simp only [pickO, List.map_cons, List.map_nil, List.getElem?_toArray, List.getElem?_cons_succ, List.getElem?_cons_zero, Option.getD_some]
  go_wp2_with fail
  have hP := BC.new X3 X3.heap.size #[.string ⟨#[48]⟩, .string ⟨#[49, 48, 48]⟩, .string ⟨#[49, 49]⟩] 9 rfl
  have hab : Below X3.heap.size X3 (X3.alloc (.cells #[.string ⟨#[48]⟩, .string ⟨#[49, 48, 48]⟩, .string ⟨#[49, 49]⟩] 9)) := (Below.refl _ X3).alloc (Nat.le_refl _) _
  refine mixQ_ok hab ?_
  have HX4 := Lib.hid (bstep HX3.out hab)
  obtain ⟨b3, hbe⟩ : ∃ b, X3.heap.size = b := ⟨_, rfl⟩
  rw [hbe] at hP ⊢
  clear hbe hab
  obtain ⟨X4, hW⟩ : ∃ W, (X3.alloc (.cells #[.string ⟨#[48]⟩, .string ⟨#[49, 48, 48]⟩, .string ⟨#[49, 49]⟩] 9)) = W := ⟨_, rfl⟩
  rw [hW] at hP HX4 ⊢
  clear hW
  have HP := Lib.hid hP
  clear hP
  have HEQ := Lib.hid (eqSR_any (HR6.out.below HX4.out) (litSR (c := 3) [⟨#[48]⟩, ⟨#[49, 48, 48]⟩, ⟨#[49, 49]⟩] HP.out (by decide) (by unfold maxLen; decide)) (by decide) (by decide))
  rw [decide_eq_true rfl] at HEQ
  refine wpMix_r ?_
  simp only [pickO, List.map_cons, List.map_nil, List.getElem?_toArray, List.getElem?_cons_succ, List.getElem?_cons_zero, Option.getD_some]
  go_wp2_with fail
  refine (HEQ.out).mono ?_
  rintro e X5 ⟨rfl, hbc⟩
  go_wp2_with fail
  refine mixQ_ok hbc ?_
  have HX5 := Lib.hid (bstep HX4.out hbc)
  clear hbc
  clear HEQ HP
  refine wpMix_q ?_
  simp only [pickO, List.map_cons, List.map_nil, List.getElem?_toArray, List.getElem?_cons_succ, List.getElem?_cons_zero, Option.getD_some]
  haveI := cv_some X5
  iterate 1 (go_big_quiet_step (fail))
  refine wpQuiet_nil ?_
  clear this
  refine wpMix_nil ?_
  simp only [pickO, List.map_cons, List.map_nil, List.getElem?_toArray, List.getElem?_cons_succ, List.getElem?_cons_zero, Option.getD_some]
  have HS7 := Lib.hid (HS6.out.below HX5.out)
  have HN7 := Lib.hid (HN6.out.below HX5.out)
  have HT7 := Lib.hid (HT6.out.below HX5.out)
  have HB7 := Lib.hid (bstep HB6.out HX5.out)
  clear HS6 HN6 HT6 HB6 HP6 HR6 HX0 HX1 HX2 HX3 HX4 HX5 hmg
  clear HLN HCS HTB HFT HCD HO4 HCK HB0 HB1
  obtain ⟨Y0, hY⟩ : ∃ Y, X5 = Y := ⟨_, rfl⟩
  subst hY
  have hp := BC.new X5 X5.heap.size #[.int .i64 0, .int .i64 6, .int .i64 14] 3 rfl
  have hal : Below X5.heap.size X5 (X5.alloc (.cells #[.int .i64 0, .int .i64 6, .int .i64 14] 3)) := (Below.refl _ _).alloc (Nat.le_refl _) _
  have HX := Lib.hid (HOF.out [0, 6, 14] (by decide) (by decide) (by decide) X5.heap.size _ hp)
  go_wp2_with fail
  refine HX.out.mono ?_
  rintro e Y1 ⟨p0, c0, rfl, h1, h2, hs, hb⟩
  have HZ1 := Lib.hid (bstep (Below.refl _ X5) (bstep hal hb))
  have HV0C := Lib.hid (And.intro (show 3 ≤ c0 from h1) h2)
  have HV0 := Lib.hid hs
  clear hp hal HX h1 h2 hs hb
  have hp := BC.new Y1 Y1.heap.size #[.int .i64 0, .int .i64 7] 3 rfl
  have hal : Below Y1.heap.size Y1 (Y1.alloc (.cells #[.int .i64 0, .int .i64 7] 3)) := (Below.refl _ _).alloc (Nat.le_refl _) _
  have HX := Lib.hid (HOF.out [0, 7] (by decide) (by decide) (by decide) Y1.heap.size _ hp)
  go_wp2_with fail
  refine HX.out.mono ?_
  rintro e Y2 ⟨p1, c1, rfl, h1, h2, hs, hb⟩
  have HZ2 := Lib.hid (bstep HZ1.out (bstep hal hb))
  have HV1C := Lib.hid (And.intro (show 2 ≤ c1 from h1) h2)
  have hv0 := (HV0.out.below hal).below hb
  clear HV0
  have HV0 := Lib.hid hv0
  clear hv0
  have HV1 := Lib.hid hs
  clear hp hal HX h1 h2 hs hb
  have hp := BC.new Y2 Y2.heap.size #[.int .i64 0] 3 rfl
  have hal : Below Y2.heap.size Y2 (Y2.alloc (.cells #[.int .i64 0] 3)) := (Below.refl _ _).alloc (Nat.le_refl _) _
  have HX := Lib.hid (HOF.out [0] (by decide) (by decide) (by decide) Y2.heap.size _ hp)
  go_wp2_with fail
  refine HX.out.mono ?_
  rintro e Y3 ⟨p2, c2, rfl, h1, h2, hs, hb⟩
  have HZ3 := Lib.hid (bstep HZ2.out (bstep hal hb))
  have HV2C := Lib.hid (And.intro (show 1 ≤ c2 from h1) h2)
  have hv0 := (HV0.out.below hal).below hb
  clear HV0
  have HV0 := Lib.hid hv0
  clear hv0
  have hv1 := (HV1.out.below hal).below hb
  clear HV1
  have HV1 := Lib.hid hv1
  clear hv1
  have HV2 := Lib.hid hs
  clear hp hal HX h1 h2 hs hb
  have hp := BC.new Y3 Y3.heap.size #[.slice (some ⟨p0, 0, none⟩) 3 c0, .slice (some ⟨p1, 0, none⟩) 2 c1, .slice (some ⟨p2, 0, none⟩) 1 c2] 33 rfl
  have hal : Below Y3.heap.size Y3 (Y3.alloc (.cells #[.slice (some ⟨p0, 0, none⟩) 3 c0, .slice (some ⟨p1, 0, none⟩) 2 c1, .slice (some ⟨p2, 0, none⟩) 1 c2] 33)) := (Below.refl _ _).alloc (Nat.le_refl _) _
  have HRW := Lib.hid (lit_rows HV0C.out HV1C.out HV2C.out hp (HV0.out.below hal) (HV1.out.below hal) (HV2.out.below hal))
  have HX := Lib.hid (sameM_any v4 _ (tabM [1, 5, 2]) [VL [0, 6, 14], VL [0, 7], VL [0]] (by rw [tabM_len]; decide) (by rw [aw40e]; exact rowLt (by decide +kernel)) _ ((HT7.out.below HZ3.out).below hal) HRW.out)
  rw [decide_eq_true aw40e] at HX
  have HZ4 := Lib.hid (bstep HZ3.out hal)
  clear hp hal
  go_wp2_with fail
  refine HX.out.mono ?_
  rintro e Y5 ⟨rfl, hb⟩
  have HZ5 := Lib.hid (bstep HZ4.out hb)
  clear HX hb
  have HX := Lib.hid (HKC.out g c HC1.out HC2.out v4 v2 Y5 (HS7.out.below HZ5.out) (HT7.out.below HZ5.out) (HN7.out.below HZ5.out))
  go_wp2_with fail
  refine HX.out.mono ?_
  rintro e Y6 ⟨rfl, hb⟩
  have HB8 := Lib.hid (bstep (bstep HB7.out HZ5.out) hb)
  clear hb
  go_wp2
  go_ret
  exact ⟨rfl, HB8.out⟩
end Go.Proofs.Gv
