/- Sums of powers: sum of the laws, huffman.fits, huffman.Optimal. -/
import Derived.Test.YtpdanbnfommbhaaHlscP
import Derived.Test.YtpdanbnfommbhaaMixC
set_option linter.unusedSimpArgs false
set_option linter.unusedVariables false
namespace Go.Proofs.Gv
open Go Go.RowKit Go.Maps

theorem bl_16 (q : Nat) (h : q ≤ 16) : bl q ≤ 5 := bl_lt (N := 5) (by omega)
theorem cPowN (q n : Nat) (hq : q ≤ 16) (hn : n ≤ 64) (W : World) :
    Calls Try.prog 55 #[.agg #[.bool false, .string (mg q)], .int .i64 (n : Int)] W fun e w' => e = .returned (.tuple #[.agg #[.bool false, .string (mg (q ^ n))], .int .i64 0]) ∧ Below W.heap.size W w' := by
  have := cPower (n : Int) (VN_rp (z := q) (N := 62) (by omega) (by omega)) (by omega) (by omega) (by
    rw [Int.natAbs_natCast, Int.toNat_natCast]
    exact Nat.le_trans (Nat.mul_le_mul hn (bl_16 q hq)) (by decide)) W
  rw [Int.toNat_natCast, show ((q : Int) ^ n) = ((q ^ n : Nat) : Int) by simp, Int.natAbs_natCast, show sgn ((q ^ n : Nat) : Int) = false from decide_eq_false (by omega)] at this
  exact this
def pws (q : Nat) (ds : List Nat) : List Nat := ds.map fun d => q ^ (64 - d)
theorem pws_at {q : Nat} {ds : List Nat} {i d : Nat} (h : ds[i]? = some d) : (pws q ds)[i]? = some (q ^ (64 - d)) := by unfold pws; rw [List.getElem?_map, h]; rfl
def pwN : Nat := 257
theorem pw_lt {q d : Nat} (hq : q ≤ 16) : q ^ (64 - d) < 2 ^ pwN := by
  have h1 : q ^ (64 - d) ≤ 16 ^ (64 - d) := Nat.pow_le_pow_left hq _
  have h2 : (16 : Nat) ^ (64 - d) = 2 ^ (4 * (64 - d)) := by rw [show (16 : Nat) = 2 ^ 4 from rfl, ← Nat.pow_mul]
  rw [h2] at h1
  exact Nat.lt_of_le_of_lt h1 (Nat.pow_lt_pow_right (by decide) (by unfold pwN; omega))
theorem pws_lt {q : Nat} (hq : q ≤ 16) (ds : List Nat) (hl : ds.length ≤ 1000) : (pws q ds).sum < 2 ^ (pwN + 10) := by
  have : ∀ z ∈ pws q ds, z < 2 ^ pwN := fun z hz => by
    unfold pws at hz
    obtain ⟨d, -, rfl⟩ := List.mem_map.1 hz
    exact pw_lt hq
  exact sum_lt this (by unfold pws; rw [List.length_map]; exact hl)
theorem pwN_le : pwN ≤ 1000000 ∧ pwN + 10 ≤ 1000000 := by unfold pwN; decide
set_option maxRecDepth 100000 in
set_option maxHeartbeats 4000000 in
theorem sum_any (q g c n : Nat) (ds : List Nat) (hq : q ≤ 16) (hn : ds.length = n) (hl : n ≤ 1000) (hd : ∀ d ∈ ds, 1 ≤ d ∧ d ≤ 64) (w : World) (hr : NR w g ds) :
    Calls Try.prog 26 #[.int .i64 (q : Int), .slice (some ⟨g, 0, none⟩) n c] w fun e w' => e = .returned (.tuple #[.agg #[.bool false, .string (mg (pws q ds).sum)], .agg #[.bool false, .string (mg (q ^ 64))]]) ∧ Below w.heap.size w w' := by
  subst hn
  have HR := Lib.hid hr
  have HD := Lib.hid hd
  have HPL := Lib.hid (pws_lt hq ds hl)
  have HQ := Lib.hid (fun W => cOfN q (by omega) W)
  have HPW := Lib.hid (fun d W => cPowN q (64 - d) hq (by omega) W)
  have HP64 := Lib.hid (fun W => cPowN q 64 hq (by omega) W)
  have HPX := Lib.hid (fun d => pw_lt (q := q) (d := d) hq)
  clear hr hd
  have HB4 := Lib.hid (((BC.new w w.heap.size #[.bool false, .string ⟨#[]⟩] 33 rfl).alloc (.cells #[.bool false, .string ⟨#[]⟩] 33)))
  have HB5 := Lib.hid (BC.new (w.alloc (.cells #[.bool false, .string ⟨#[]⟩] 33)) (w.heap.size + 1) #[.bool false, .string ⟨#[]⟩] 33 (by simp))
  have HL := Lib.hid (((Below.refl w.heap.size w).alloc (Nat.le_refl _) (.cells #[.bool false, .string ⟨#[]⟩] 33)).alloc (by simp) (.cells #[.bool false, .string ⟨#[]⟩] 33))
  go_enter Try.func26, Try.ntmps26
  go_wp2_with fail
  refine (cOfN 0 (by decide) _).mono ?_
  rintro e w1 ⟨rfl, hb1⟩
  have hbA := bstep hb1 ((Below.refl _ w1).alloc (Nat.le_refl _) (.cells #[.bool false, .string (mg 0)] 33))
  have HL1 := Lib.hid (bstep HL.out hbA)
  have HB4a := Lib.hid (HB4.out.below hbA)
  have HB5a := Lib.hid (HB5.out.below hbA)
  have HB6 := Lib.hid (BC.new w1 w1.heap.size #[.bool false, .string (mg 0)] 33 rfl)
  have HO := Lib.hid (show w.heap.size + 1 < w1.heap.size by have := hb1.size; simp at this; omega)
  obtain ⟨W1, hW1⟩ : ∃ W, w1.alloc (.cells #[.bool false, .string (mg 0)] 33) = W := ⟨_, rfl⟩
  obtain ⟨B6, hB6⟩ : ∃ B, w1.heap.size = B := ⟨_, rfl⟩
  rw [hW1] at HL1 HB4a HB5a HB6
  rw [hB6] at HB6 HO
  clear hb1 hbA HL HB4 HB5
  go_wp2_with fail
  clear hW1 hB6
  go_loopg [16] (ds.length + 1) (fun gg x16 wr => ∃ i : Nat, x16 = .int .i64 (i : Int) ∧ i ≤ ds.length ∧ ds.length - i < gg ∧ Below w.heap.size w wr ∧ BC wr w.heap.size [.bool false, .string ⟨#[]⟩] ∧ BC wr (w.heap.size + 1) [.bool false, .string ⟨#[]⟩] ∧ BC wr B6 [.bool false, .string (mg ((pws q ds).take i).sum)])
  case atStart => exact ⟨0, rfl, Nat.zero_le _, by omega, HL1.out, HB4a.out, HB5a.out, HB6.out⟩
  case round =>
    obtain ⟨i, rfl, hi, hig, hbl, h4, h5, h6⟩ := hrel
    have HGG := Lib.hid hig
    have HLr := Lib.hid hbl
    have H4 := Lib.hid h4
    have H5 := Lib.hid h5
    have H6 := Lib.hid h6
    clear hig hbl h4 h5 h6 HL1 HB4a HB5a HB6
    by_cases hlt : i < ds.length
    · have hltI : (i : Int) < ds.length := by omega
      obtain ⟨d, hd⟩ : ∃ d, ds[i]? = some d := ⟨ds[i], List.getElem?_eq_getElem hlt⟩
      have hd1 := (HD.out d (List.mem_of_getElem? hd)).1
      have hd2 := (HD.out d (List.mem_of_getElem? hd)).2
      have c0 := (HR.out.below HLr.out).at_ i d hd
      have HSX := Lib.hid (show ((pws q ds).take (i + 1)).sum = ((pws q ds).take i).sum + q ^ (64 - d) from take_sum_succ (pws_at hd))
      have HST := Lib.hid (show ((pws q ds).take i).sum < 2 ^ (pwN + 10) from Nat.lt_of_le_of_lt (take_sum_le _ i) HPL.out)
      have HPd := Lib.hid (show ∀ W, Calls Try.prog 55 #[.agg #[.bool false, .string (mg q)], .int .i64 (64 - (d : Int))] W fun e w' => e = .returned (.tuple #[.agg #[.bool false, .string (mg (q ^ (64 - d)))], .int .i64 0]) ∧ Below W.heap.size W w' from fun W => by have := HPW.out d W; rwa [show ((64 - d : Nat) : Int) = 64 - (d : Int) by omega] at this)
      have HXd := Lib.hid (HPX.out d)
      clear hd
      obtain ⟨p, hp⟩ : ∃ p, q ^ (64 - d) = p := ⟨_, rfl⟩
      rw [hp] at HSX HPd HXd
      clear hp
      go_wp2_with fail
      refine (HQ.out _).mono ?_
      rintro e w2 ⟨rfl, hb2⟩
      go_wp2_with fail
      refine (HPd.out _).mono ?_
      rintro e w3 ⟨rfl, hb3⟩
      have hbA := bstep hb2 (bstep hb3 ((Below.refl _ w3).alloc (Nat.le_refl _) (.cells #[.bool false, .string (mg p)] 33)))
      have H6a := Lib.hid (H6.out.below hbA)
      have H9 := Lib.hid (BC.new w3 w3.heap.size #[.bool false, .string (mg p)] 33 rfl)
      have HLa := Lib.hid (bstep HLr.out hbA)
      have H4a := Lib.hid (H4.out.below hbA)
      have H5a := Lib.hid (H5.out.below hbA)
      obtain ⟨W3, hW3⟩ : ∃ W, w3.alloc (.cells #[.bool false, .string (mg p)] 33) = W := ⟨_, rfl⟩
      obtain ⟨B9, hB9⟩ : ∃ B, w3.heap.size = B := ⟨_, rfl⟩
      rw [hW3] at H6a H9 HLa H4a H5a
      rw [hB9] at H9
      clear hb2 hb3 hbA c0 H6 H4 H5 HLr
      have x0 := H6a.out.at 0 _ rfl
      have x1 := H6a.out.at 1 _ rfl
      have x2 := H9.out.at 0 _ rfl
      have x3 := H9.out.at 1 _ rfl
      go_wp2_with fail
      clear hW3 hB9
      refine (cAddN (pwN + 10) pwN HST.out HXd.out pwN_le.2 pwN_le.1 _).mono ?_
      rintro e w4 ⟨rfl, hb4⟩
      have H6b := Lib.hid (H6a.out.below hb4)
      have HLb := Lib.hid (bstep HLa.out hb4)
      have H4b := Lib.hid (H4a.out.below hb4)
      have H5b := Lib.hid (H5a.out.below hb4)
      clear hb4 x0 x1 x2 x3 H6a HLa H4a H5a H9
      have y0 := H6b.out.at 0 _ rfl
      have y1 := H6b.out.at 1 _ rfl
      have y2 := H6b.out.z 0 (by simp)
      have y3 := H6b.out.z 1 (by simp)
      go_wp2_with fail
      go_roundg (ds.length - i)
      case rel =>
        refine ⟨i + 1, by go_num, by omega, by omega, ?_, ?_, ?_, ?_⟩
        · have := HO.out
          exact (HLb.out.setCell (p := ⟨B6, 0, none⟩) (by simp; omega) _).setCell (p := ⟨B6, 1, none⟩) (by simp; omega) _
        · exact H4b.out.other2 0 1 _ _ (by have := HO.out; omega)
        · exact H5b.out.other2 0 1 _ _ (by have := HO.out; omega)
        · rw [HSX.out]
          exact H6b.out.set2 0 1 (.bool false) (.string (mg (((pws q ds).take i).sum + p))) (by simp) (by simp)
      case measure => have := HGG.out; omega
    · obtain rfl : i = ds.length := by omega
      have hB : decide ((ds.length : Int) < ds.length) = false := by simp
      have hT : ((pws q ds).take ds.length).sum = (pws q ds).sum := by rw [List.take_of_length_le (by unfold pws; rw [List.length_map]; exact Nat.le_refl _)]
      rw [hT] at H6
      obtain ⟨S, hS⟩ : ∃ S, (pws q ds).sum = S := ⟨_, rfl⟩
      obtain ⟨p, hp⟩ : ∃ p, q ^ 64 = p := ⟨_, rfl⟩
      rw [hS] at H6
      rw [hp] at HP64
      have HSP := Lib.hid (show _ ∧ _ from ⟨hS, hp⟩)
      clear hT hS hp
      go_wp2_with fail
      refine (HQ.out _).mono ?_
      rintro e w2 ⟨rfl, hb2⟩
      go_wp2_with fail
      refine (HP64.out _).mono ?_
      rintro e w3 ⟨rfl, hb3⟩
      have hbA := bstep hb2 (bstep hb3 ((Below.refl _ w3).alloc (Nat.le_refl _) (.cells #[.bool false, .string (mg p)] 33)))
      have H6a := Lib.hid (H6.out.below hbA)
      have H9 := Lib.hid (BC.new w3 w3.heap.size #[.bool false, .string (mg p)] 33 rfl)
      have HLa := Lib.hid (bstep HLr.out hbA)
      have H4a := Lib.hid (H4.out.below hbA)
      have H5a := Lib.hid (H5.out.below hbA)
      obtain ⟨W3, hW3⟩ : ∃ W, w3.alloc (.cells #[.bool false, .string (mg p)] 33) = W := ⟨_, rfl⟩
      obtain ⟨B9, hB9⟩ : ∃ B, w3.heap.size = B := ⟨_, rfl⟩
      have HB9o := Lib.hid (show w.heap.size + 1 < B9 from by rw [← hB9]; have := HO.out; have := H6.out.lt; have := hb2.size; have := hb3.size; omega)
      rw [hW3] at H6a H9 HLa H4a H5a
      rw [hB9] at H9
      clear hb2 hb3 hbA H6 H4 H5 HLr
      go_wp2_with fail
      clear hW3 hB9
      have H6b := Lib.hid (show BC W3.drew B6 [.bool false, .string (mg S)] from H6a.out.drew)
      have H9b := Lib.hid (show BC W3.drew B9 [.bool false, .string (mg p)] from H9.out.drew)
      have HLb := Lib.hid (show Below w.heap.size w W3.drew from below_drew HLa.out)
      have H4b := Lib.hid (H4a.out.drew)
      have H5b := Lib.hid (H5a.out.drew)
      have HO9 := Lib.hid (show w.heap.size + 1 < B6 ∧ w.heap.size + 1 < B9 from ⟨HO.out, HB9o.out⟩)
      clear H6a H9 HLa H4a H5a
      have y0 := H4b.out.at 0 _ rfl
      have y1 := H4b.out.at 1 _ rfl
      have y2 := H5b.out.at 0 _ rfl
      have y3 := H5b.out.at 1 _ rfl
      have z0 := H4b.out.z 0 (by simp)
      have z1 := H4b.out.z 1 (by simp)
      have z2 := H5b.out.z 0 (by simp)
      have z3 := H5b.out.z 1 (by simp)
      have c1 : BCs [(B6, [.bool false, .string (mg S)]), (B9, [.bool false, .string (mg p)])] W3.drew := BCs.cons (BCs.cons (BCs.nil _) H9b.out) H6b.out
      have c2 : BCs [(B6, [.bool false, .string (mg S)]), (B9, [.bool false, .string (mg p)])] ((W3.drew.setCell ⟨w.heap.size, 0, none⟩ (.bool false)).setCell ⟨w.heap.size, 1, none⟩ (.string (mg S))) :=
        BCs.cons (BCs.cons (BCs.nil _) (H9b.out.other2 0 1 _ _ (by have := HO9.out.2; omega))) (H6b.out.other2 0 1 _ _ (by have := HO9.out.1; omega))
      have c3 : BCs [(B6, [.bool false, .string (mg S)]), (B9, [.bool false, .string (mg p)])] ((((W3.drew.setCell ⟨w.heap.size, 0, none⟩ (.bool false)).setCell ⟨w.heap.size, 1, none⟩ (.string (mg S))).setCell ⟨w.heap.size + 1, 0, none⟩ (.bool false)).setCell ⟨w.heap.size + 1, 1, none⟩ (.string (mg p))) :=
        BCs.cons (BCs.cons (BCs.nil _) ((H9b.out.other2 0 1 _ _ (by have := HO9.out.2; omega)).other2 0 1 _ _ (by have := HO9.out.2; omega))) ((H6b.out.other2 0 1 _ _ (by have := HO9.out.1; omega)).other2 0 1 _ _ (by have := HO9.out.1; omega))
      have C1 := Lib.hid c1
      have C2 := Lib.hid c2
      have C3 := Lib.hid c3
      clear c1 c2 c3
      refine wp_region_mixC (fun x => ∃ u : CB [(B6, [.bool false, .string (mg S)]), (B9, [.bool false, .string (mg p)])], x = u.x) [.q [0, 1], .r 2, .r 3] (by kernel_rfl) (by kernel_rfl) (by intro d v c a w h; cases d <;> exact h) (cb_in C1.out) ?_
      obtain ⟨X0, hX0⟩ : ∃ X, W3.drew = X := ⟨_, rfl⟩
      rw [hX0] at y0 y1 y2 y3 z0 z1 z2 z3 C1 C2 C3 H4b H5b HLb ⊢
      clear hX0
      refine wpMixC_q ?_
      simp only [pickO, List.map_cons, List.map_nil, List.getElem?_toArray, List.getElem?_cons_succ, List.getElem?_cons_zero, Option.getD_some]
      haveI : Nonempty (CB [(B6, [.bool false, .string (mg S)]), (B9, [.bool false, .string (mg p)])]) := ⟨⟨_, C1.out⟩⟩
      have x0 := fun u : CB [(B6, [.bool false, .string (mg S)]), (B9, [.bool false, .string (mg p)])] => u.at List.mem_cons_self 0 _ rfl
      have x1 := fun u : CB [(B6, [.bool false, .string (mg S)]), (B9, [.bool false, .string (mg p)])] => u.at List.mem_cons_self 1 _ rfl
      have x2 := fun u : CB [(B6, [.bool false, .string (mg S)]), (B9, [.bool false, .string (mg p)])] => u.at (List.mem_cons_of_mem _ List.mem_cons_self) 0 _ rfl
      have x3 := fun u : CB [(B6, [.bool false, .string (mg S)]), (B9, [.bool false, .string (mg p)])] => u.at (List.mem_cons_of_mem _ List.mem_cons_self) 1 _ rfl
      iterate 2 (go_big_quiet_step (fail))
      refine wpQuiet_nil ?_
      clear this x0 x1 x2 x3
      refine wpMixC_r ?_
      simp only [pickO, List.map_cons, List.map_nil, List.getElem?_toArray, List.getElem?_cons_succ, List.getElem?_cons_zero, Option.getD_some]
      go_wp2_with fail
      refine mixQC_ok ?_ ?_
      · exact cb_in C2.out
      refine wpMixC_r ?_
      simp only [pickO, List.map_cons, List.map_nil, List.getElem?_toArray, List.getElem?_cons_succ, List.getElem?_cons_zero, Option.getD_some]
      go_wp2_with fail
      refine mixQC_ok ?_ ?_
      · exact cb_in C3.out
      refine wpMixC_nil ?_
      go_wp2_with fail
      have e4 := H4b.out.set2 0 1 (.bool false) (.string (mg S)) (by simp) (by simp)
      have e5 := (H5b.out.other2 0 1 (.bool false) (.string (mg S)) (show w.heap.size + 1 ≠ w.heap.size by omega)).set2 0 1 (.bool false) (.string (mg p)) (by simp) (by simp)
      have e4' := e4.other2 0 1 (.bool false) (.string (mg p)) (show w.heap.size ≠ w.heap.size + 1 by omega)
      have f0 := e4'.at 0 _ rfl
      have f1 := e4'.at 1 _ rfl
      have f2 := e5.at 0 _ rfl
      have f3 := e5.at 1 _ rfl
      refine bodyPost_ret (v := .tuple #[.agg #[.bool false, .string (mg S)], .agg #[.bool false, .string (mg p)]]) (by simp [results, Try.results26, go_sem, f0, f1, f2, f3]) rfl ?_
      rw [HSP.out.1, HSP.out.2]
      exact ⟨rfl, ((((HLb.out.setCell (p := ⟨w.heap.size, 0, none⟩) (Nat.le_refl _) _).setCell (p := ⟨w.heap.size, 1, none⟩) (Nat.le_refl _) _).setCell (p := ⟨w.heap.size + 1, 0, none⟩) (by simp) _).setCell (p := ⟨w.heap.size + 1, 1, none⟩) (by simp) _)⟩
end Go.Proofs.Gv
