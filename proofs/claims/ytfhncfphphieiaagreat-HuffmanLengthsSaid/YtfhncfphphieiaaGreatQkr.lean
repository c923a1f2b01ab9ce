import Derived.Test.YtfhncfphphieiaaGreatRatJP
set_option maxHeartbeats 4000000
set_option maxRecDepth 100000
set_option linter.unusedSimpArgs false
set_option linter.unusedVariables false
namespace Go.Proofs.Gv
open Go Go.RowKit Go.Maps
theorem natV_is {ds : List Nat} {i d : Nat} (h : ds[i]? = some d) : (natV ds)[i]? = some (.int .i64 (d : Int)) := by unfold natV; rw [List.getElem?_map, h]; rfl
structure RC (W : World) (b : Nat) (l : List Value) : Prop where
 lt : b < W.heap.size
 cell : ∀ i v, l[i]? = some v → W.cell? ⟨b, i, none⟩ = some v
theorem RC.below {W W1 W' : World} {b : Nat} {l : List Value} (h : RC W b l) (hb : Below W1.heap.size W1 W') (e : W1.heap = W.heap := by rfl) : RC W' b l := by
 have hlt : b < W1.heap.size := by rw [e]; exact h.lt
 have hc : ∀ o, W1.cell? ⟨b, o, none⟩ = W.cell? ⟨b, o, none⟩ := fun o => World.cell?_of_block (by rw [e])
 exact ⟨Nat.lt_of_lt_of_le hlt hb.size, fun i v hv => (hb.cell (p := ⟨b, i, none⟩) hlt).trans ((hc i).trans (h.cell i v hv))⟩
theorem RC.alloc {W : World} {b : Nat} {l : List Value} (h : RC W b l) (o : Obj) : RC (W.alloc o) b l :=
 h.below ((Below.refl W.heap.size W).alloc (Nat.le_refl _) o)
theorem RC.at {W : World} {b : Nat} {l : List Value} (h : RC W b l) (i : Nat) (v : Value) (e : l[i]? = some v := by rfl) : W.cell? ⟨b, i, none⟩ = some v := h.cell i v e
theorem RC.of {W : World} {b : Nat} {l : List Value} (h : BC W b l) : RC W b l := ⟨h.lt, h.cell⟩
def kq (q : Nat) (ds : List Nat) : List Nat := ds.map fun d => q ^ (32 - d)
theorem kq_at {q : Nat} {ds : List Nat} {i d : Nat} (h : ds[i]? = some d) : (kq q ds)[i]? = some (q ^ (32 - d)) := by unfold kq; rw [List.getElem?_map, h]; rfl
theorem pq_lt {q : Nat} (hq : q ≤ 16) (d : Nat) : q ^ (32 - d) < 2 ^ 129 := by
 have h1 : q ^ (32 - d) ≤ 16 ^ (32 - d) := Nat.pow_le_pow_left hq _
 have h2 : (16 : Nat) ^ (32 - d) = 2 ^ (4 * (32 - d)) := by rw [show (16 : Nat) = 2 ^ 4 from rfl, ← Nat.pow_mul]
 rw [h2] at h1
 exact Nat.lt_of_le_of_lt h1 (Nat.pow_lt_pow_right (by decide) (by omega))
theorem kq_lt {q : Nat} (hq : q ≤ 16) (ds : List Nat) (hl : ds.length ≤ 1000) : (kq q ds).sum < 2 ^ 139 := sum_lt (N := 129) (fun z hz => by
  unfold kq at hz
  obtain ⟨d, -, rfl⟩ := List.mem_map.1 hz
  exact pq_lt hq d) (by unfold kq; rw [List.length_map]; exact hl)
theorem kq_le {S P : Nat} (hP : 0 < P) (h : S ≤ P) : decide (0 < cmpQ (Rat.divInt (S : Int) (P : Int)) 1) = false := by
 have h0 : (((P : Nat) : Int) : Rat) ≠ 0 := by
  intro e
  have : ((P : Nat) : Int) = 0 := by exact_mod_cast e
  omega
 have e : Rat.divInt (S : Int) (P : Int) * (((P : Nat) : Int) : Rat) = (((S : Nat) : Int) : Rat) := by rw [Rat.divInt_eq_div, Rat.div_mul_cancel h0]
 have hle : ¬ (1 : Rat) < Rat.divInt (S : Int) (P : Int) := fun hlt => by
  have hp : (0 : Rat) < (((P : Nat) : Int) : Rat) := by exact_mod_cast (show (0 : Int) < (P : Int) by omega)
  have h1 := Rat.mul_lt_mul_of_pos_right hlt hp
  rw [e, Rat.one_mul] at h1
  have : ((P : Nat) : Int) < ((S : Nat) : Int) := by exact_mod_cast h1
  omega
 rcases cmpQ_cases (Rat.divInt (S : Int) (P : Int)) 1 with ⟨h, e, -⟩ | ⟨h, e, -⟩ | ⟨h, e, -⟩
 ·rw [e]; decide
 ·rw [e]; decide
 ·exact absurd h hle
theorem kgoodQ_any (k : Nat) (h1 : 1 ≤ k) (h2 : k ≤ 32) (w : World) : Calls Tryz.prog 78 #[.int .i64 (k : Int)] w fun e w' => e = .returned (.bool false) ∧ w' = w := by
 have h1I : decide ((k : Int) < 1) = false := by simp; omega
 have h2I : decide ((32 : Int) < (k : Int)) = false := by simp; omega
 go_enter Tryz.func78, Tryz.ntmps78
 go_wp2
 go_ret
 exact ⟨rfl, rfl⟩
theorem kidxQ_any {g c n : Nat} {ds : List Nat} (hn : ds.length = n) (hl : n ≤ 1000) (hd : ∀ d ∈ ds, 1 ≤ d ∧ d ≤ 32) (w : World) (h : RC w g (natV ds)) :
  Calls Tryz.prog 67 #[.slice (some ⟨g, 0, none⟩) n c, .func (.func 78) #[] #[]] w fun e w' => e = .returned (.int .i64 (-1)) ∧ w' = w := by
 have HN := Lib.hid hn
 have HD := Lib.hid hd
 have HA := Lib.hid h
 clear hd h hn
 go_enter Tryz.func67, Tryz.ntmps67
 go_wp2
 go_loopg [8] (n + 1) (fun gg v8 wr => ∃ i : Nat, v8 = .int .i64 (i : Int) ∧ i ≤ n ∧ n - i < gg ∧ wr = w)
 case atStart => exact ⟨0, rfl, Nat.zero_le _, by omega, rfl⟩
 case round =>
  obtain ⟨i, rfl, hi, hig, ew⟩ := hrel
  subst ew
  have HG := Lib.hid hig
  clear hig
  by_cases hlt : i < n
  ·have hltI : (i : Int) < n := by omega
   obtain ⟨x, hx2⟩ : ∃ x, ds[i]? = some x := ⟨ds[i]'(by rw [HN.out]; exact hlt), List.getElem?_eq_getElem _⟩
   have c0 := HA.out.at i _ (natV_is hx2)
   have HCB := Lib.hid (fun W => kgoodQ_any x (HD.out x (List.mem_of_getElem? hx2)).1 (HD.out x (List.mem_of_getElem? hx2)).2 W)
   clear hx2
   go_wp2_with fail
   refine (HCB.out _).mono ?_
   rintro e w1 ⟨rfl, ew⟩
   subst ew
   go_wp2
   go_roundg (n - i)
   case rel => exact ⟨i + 1, by go_num, by omega, by omega, rfl⟩
   case measure => have := HG.out; omega
  ·obtain rfl : i = n := by omega
   have hB : decide ((i : Int) < i) = false := by simp
   go_wp2
   go_ret
   exact ⟨rfl, rfl⟩
theorem kconQ_any {g c n : Nat} {ds : List Nat} (hn : ds.length = n) (hl : n ≤ 1000) (hd : ∀ d ∈ ds, 1 ≤ d ∧ d ≤ 32) (w : World) (h : RC w g (natV ds)) :
  Calls Tryz.prog 32 #[.slice (some ⟨g, 0, none⟩) n c, .func (.func 78) #[] #[]] w fun e w' => e = .returned (.bool false) ∧ w' = w := by
 have HI := Lib.hid (kidxQ_any (c := c) hn hl hd w h)
 clear h hn hd
 go_enter Tryz.func32, Tryz.ntmps32
 go_wp2_with fail
 refine HI.out.mono ?_
 rintro e w1 ⟨rfl, ew⟩
 subst ew
 go_wp2
 go_ret
 exact ⟨rfl, rfl⟩
theorem kgoodF_any (k : Nat) (h1 : 1 ≤ k) (h2 : k ≤ 32) (w : World) : Calls Tryz.prog 51 #[.int .i64 (k : Int)] w fun e w' => e = .returned (.bool false) ∧ w' = w := by
 have h1I : decide ((k : Int) < 1) = false := by simp; omega
 have h2I : decide ((32 : Int) < (k : Int)) = false := by simp; omega
 go_enter Tryz.func51, Tryz.ntmps51
 go_wp2
 go_ret
 exact ⟨rfl, rfl⟩
theorem kidxF_any {g c n : Nat} {ds : List Nat} (hn : ds.length = n) (hl : n ≤ 1000) (hd : ∀ d ∈ ds, 1 ≤ d ∧ d ≤ 32) (w : World) (h : RC w g (natV ds)) :
  Calls Tryz.prog 67 #[.slice (some ⟨g, 0, none⟩) n c, .func (.func 51) #[] #[]] w fun e w' => e = .returned (.int .i64 (-1)) ∧ w' = w := by
 have HN := Lib.hid hn
 have HD := Lib.hid hd
 have HA := Lib.hid h
 clear hd h hn
 go_enter Tryz.func67, Tryz.ntmps67
 go_wp2
 go_loopg [8] (n + 1) (fun gg v8 wr => ∃ i : Nat, v8 = .int .i64 (i : Int) ∧ i ≤ n ∧ n - i < gg ∧ wr = w)
 case atStart => exact ⟨0, rfl, Nat.zero_le _, by omega, rfl⟩
 case round =>
  obtain ⟨i, rfl, hi, hig, ew⟩ := hrel
  subst ew
  have HG := Lib.hid hig
  clear hig
  by_cases hlt : i < n
  ·have hltI : (i : Int) < n := by omega
   obtain ⟨x, hx2⟩ : ∃ x, ds[i]? = some x := ⟨ds[i]'(by rw [HN.out]; exact hlt), List.getElem?_eq_getElem _⟩
   have c0 := HA.out.at i _ (natV_is hx2)
   have HCB := Lib.hid (fun W => kgoodF_any x (HD.out x (List.mem_of_getElem? hx2)).1 (HD.out x (List.mem_of_getElem? hx2)).2 W)
   clear hx2
   go_wp2_with fail
   refine (HCB.out _).mono ?_
   rintro e w1 ⟨rfl, ew⟩
   subst ew
   go_wp2
   go_roundg (n - i)
   case rel => exact ⟨i + 1, by go_num, by omega, by omega, rfl⟩
   case measure => have := HG.out; omega
  ·obtain rfl : i = n := by omega
   have hB : decide ((i : Int) < i) = false := by simp
   go_wp2
   go_ret
   exact ⟨rfl, rfl⟩
theorem kconF_any {g c n : Nat} {ds : List Nat} (hn : ds.length = n) (hl : n ≤ 1000) (hd : ∀ d ∈ ds, 1 ≤ d ∧ d ≤ 32) (w : World) (h : RC w g (natV ds)) :
  Calls Tryz.prog 32 #[.slice (some ⟨g, 0, none⟩) n c, .func (.func 51) #[] #[]] w fun e w' => e = .returned (.bool false) ∧ w' = w := by
 have HI := Lib.hid (kidxF_any (c := c) hn hl hd w h)
 clear h hn hd
 go_enter Tryz.func32, Tryz.ntmps32
 go_wp2_with fail
 refine HI.out.mono ?_
 rintro e w1 ⟨rfl, ew⟩
 subst ew
 go_wp2
 go_ret
 exact ⟨rfl, rfl⟩
theorem kraftQ_any {g c n q : Nat} {ds : List Nat} (hq2 : 2 ≤ q) (hq : q ≤ 16) (hn : ds.length = n) (hl : n ≤ 1000) (hd : ∀ d ∈ ds, 1 ≤ d ∧ d ≤ 32) (w : World) (hr : RC w g (natV ds)) :
  Calls Tryz.prog 52 #[.int .i64 (q : Int), .slice (some ⟨g, 0, none⟩) n c] w (RetQE w (Rat.divInt (((kq q ds).sum : Nat) : Int) ((q ^ 32 : Nat) : Int)) 0) := by
 subst hn
 have HR := Lib.hid hr
 have HD := Lib.hid hd
 have HKC := Lib.hid (fun W h => kconQ_any (g := g) (c := c) rfl hl hd W h)
 have HPL := Lib.hid (kq_lt hq ds hl)
 have HQ := Lib.hid (fun W => cOfN q (by omega) W)
 have HPW := Lib.hid (fun d W => cPowN q (32 - d) hq (by omega) W)
 have HP32 := Lib.hid (fun W => cPowN q 32 hq (by decide) W)
 have HPX := Lib.hid (pq_lt hq)
 have hmI : (ds.length : Int) ≤ 1000 := by omega
 have hqA : decide ((q : Int) < 2) = false := by simp; omega
 have hqB : decide ((16 : Int) < (q : Int)) = false := by simp; omega
 clear hr hd
 have HB4 := Lib.hid (BC.new w w.heap.size #[.bool false, .string ⟨#[]⟩, .bool false, .string ⟨#[]⟩] 85 rfl)
 have HL := Lib.hid ((Below.refl w.heap.size w).alloc (Nat.le_refl _) (.cells #[.bool false, .string ⟨#[]⟩, .bool false, .string ⟨#[]⟩] 85))
 go_enter Tryz.func52, Tryz.ntmps52
 have hdn : decide ((4096 : Int) < (ds.length : Int)) = false := by simp; omega
 go_wp2_with fail
 refine (HKC.out _ (HR.out.alloc _)).mono ?_
 rintro e w1 ⟨rfl, ew⟩
 subst ew
 have HB6 := Lib.hid (BC.new (w.alloc (.cells #[.bool false, .string ⟨#[]⟩, .bool false, .string ⟨#[]⟩] 85)) (w.heap.size + 1) #[.bool false, .string ⟨#[]⟩] 36 (by simp))
 have HB4a := Lib.hid (HB4.out.alloc (.cells #[.bool false, .string ⟨#[]⟩] 36))
 have HL1 := Lib.hid (HL.out.alloc (by simp) (.cells #[.bool false, .string ⟨#[]⟩] 36))
 go_upto_region 8 with fail
 obtain ⟨W1, hW1⟩ : ∃ X, (w.alloc (.cells #[.bool false, .string ⟨#[]⟩, .bool false, .string ⟨#[]⟩] 85)).alloc (.cells #[.bool false, .string ⟨#[]⟩] 36) = X := ⟨_, rfl⟩
 rw [hW1] at HB6 HB4a HL1 ⊢
 clear hW1 HB4 HL HKC
 rw [show (BC W1 (w.heap.size + 1) [.bool false, .string ⟨#[]⟩]) = (BC W1 (w.heap.size + 1) [.bool false, .string (mg 0)]) from by rw [mg_zero]] at HB6
 obtain ⟨B4, hB4⟩ : ∃ B, w.heap.size = B := ⟨_, rfl⟩
 have HBE := Lib.hid hB4
 rw [hB4] at HB6 HB4a HL1 ⊢
 obtain ⟨B6, hB6⟩ : ∃ B, B4 + 1 = B := ⟨_, rfl⟩
 have HO := Lib.hid (show B4 < B6 from by omega)
 rw [hB6] at HB6 ⊢
 clear hB4 hB6
 go_wp2_with fail
 go_loopg [32] (ds.length + 1) (fun gg x32 wr => ∃ i : Nat, x32 = .int .i64 (i : Int) ∧ i ≤ ds.length ∧ ds.length - i < gg ∧ Below B4 w wr ∧ BC wr B4 [.bool false, .string ⟨#[]⟩, .bool false, .string ⟨#[]⟩] ∧ BC wr B6 [.bool false, .string (mg ((kq q ds).take i).sum)])
 case atStart => exact ⟨0, rfl, Nat.zero_le _, by omega, HL1.out, HB4a.out, HB6.out⟩
 case round =>
  obtain ⟨i, rfl, hi, hig, hbl, h4, h6⟩ := hrel
  have HGG := Lib.hid hig
  have HLr := Lib.hid hbl
  have H4 := Lib.hid h4
  have H6 := Lib.hid h6
  clear hig hbl h4 h6 HL1 HB4a HB6 hdn
  by_cases hlt : i < ds.length
  ·have hltI : (i : Int) < ds.length := by omega
   obtain ⟨d, hd⟩ : ∃ d, ds[i]? = some d := ⟨ds[i], List.getElem?_eq_getElem hlt⟩
   have hd1 := (HD.out d (List.mem_of_getElem? hd)).1
   have hd2 := (HD.out d (List.mem_of_getElem? hd)).2
   have c0 := (HR.out.below (by rw [HBE.out]; exact HLr.out)).at i _ (natV_is hd)
   have HSX := Lib.hid (show ((kq q ds).take (i + 1)).sum = ((kq q ds).take i).sum + q ^ (32 - d) from take_sum_succ (kq_at hd))
   have HST := Lib.hid (show ((kq q ds).take i).sum < 2 ^ 139 from Nat.lt_of_le_of_lt (take_sum_le _ i) HPL.out)
   have HPd := Lib.hid (show ∀ W, Calls Tryz.prog 70 #[.agg #[.bool false, .string (mg q)], .int .i64 (32 - (d : Int))] W fun e w' => e = .returned (.tuple #[.agg #[.bool false, .string (mg (q ^ (32 - d)))], .int .i64 0]) ∧ Below W.heap.size W w' from fun W => by have := HPW.out d W; rwa [show ((32 - d : Nat) : Int) = 32 - (d : Int) by omega] at this)
   have HXd := Lib.hid (HPX.out d)
   clear hd
   obtain ⟨p, hp⟩ : ∃ p, q ^ (32 - d) = p := ⟨_, rfl⟩
   rw [hp] at HSX HPd HXd
   clear hp
   go_wp2_with fail
   refine (HQ.out _).mono ?_
   rintro e w2 ⟨rfl, hb2⟩
   go_wp2_with fail
   refine (HPd.out _).mono ?_
   rintro e w3 ⟨rfl, hb3⟩
   have hbA := bstep hb2 (bstep hb3 ((Below.refl _ w3).alloc (Nat.le_refl _) (.cells #[.bool false, .string (mg p)] 36)))
   have H6a := Lib.hid (H6.out.below hbA)
   have H9 := Lib.hid (BC.new w3 w3.heap.size #[.bool false, .string (mg p)] 36 rfl)
   have HLa := Lib.hid (HLr.out.trans (hbA.mono (by have := HLr.out.size; have := HBE.out; omega)))
   have H4a := Lib.hid (H4.out.below hbA)
   obtain ⟨W3, hW3⟩ : ∃ W, w3.alloc (.cells #[.bool false, .string (mg p)] 36) = W := ⟨_, rfl⟩
   obtain ⟨B9, hB9⟩ : ∃ B, w3.heap.size = B := ⟨_, rfl⟩
   rw [hW3] at H6a H9 HLa H4a
   rw [hB9] at H9
   clear hb2 hb3 hbA c0 H6 H4 HLr
   have x0 := H6a.out.at 0 _ rfl
   have x1 := H6a.out.at 1 _ rfl
   have x2 := H9.out.at 0 _ rfl
   have x3 := H9.out.at 1 _ rfl
   go_wp2_with fail
   clear hW3 hB9
   refine (cAddN 139 129 HST.out HXd.out (by decide) (by decide) _).mono ?_
   rintro e w4 ⟨rfl, hb4⟩
   have H6b := Lib.hid (H6a.out.below hb4)
   have HLb := Lib.hid (HLa.out.trans (hb4.mono (by have := HLa.out.size; have := HBE.out; omega)))
   have H4b := Lib.hid (H4a.out.below hb4)
   clear hb4 x0 x1 x2 x3 H6a HLa H4a H9
   have y0 := H6b.out.at 0 _ rfl
   have y1 := H6b.out.at 1 _ rfl
   have y2 := H6b.out.z 0 (by simp)
   have y3 := H6b.out.z 1 (by simp)
   go_wp2_with fail
   go_roundg (ds.length - i)
   case rel =>
    refine ⟨i + 1, by go_num, by omega, by omega, ?_, ?_, ?_⟩
    ·have := HO.out
     exact (HLb.out.setCell (p := ⟨B6, 0, none⟩) (by simp; omega) _).setCell (p := ⟨B6, 1, none⟩) (by simp; omega) _
    ·exact H4b.out.other2 0 1 _ _ (by have := HO.out; omega)
    ·rw [HSX.out]
     exact H6b.out.set2 0 1 (.bool false) (.string (mg (((kq q ds).take i).sum + p))) (by simp) (by simp)
   case measure => have := HGG.out; omega
  ·obtain rfl : i = ds.length := by omega
   have hB : decide ((ds.length : Int) < ds.length) = false := by simp
   have hT : ((kq q ds).take ds.length).sum = (kq q ds).sum := by rw [List.take_of_length_le (by unfold kq; rw [List.length_map]; exact Nat.le_refl _)]
   rw [hT] at H6
   have HPL' := Lib.hid (show (kq q ds).sum < 2 ^ 139 from HPL.out)
   obtain ⟨S, hS⟩ : ∃ S, (kq q ds).sum = S := ⟨_, rfl⟩
   obtain ⟨p, hp⟩ : ∃ p, q ^ 32 = p := ⟨_, rfl⟩
   rw [hS] at H6 HPL'
   rw [hp] at HP32
   have HP0 := Lib.hid (show p < 2 ^ 129 ∧ 0 < p from by rw [← hp]; exact ⟨by have := pq_lt hq 0; simpa using this, Nat.pow_pos (by omega)⟩)
   have HNW := Lib.hid (fun W => cQNew (x := (S : Int)) (y := (p : Int)) (VN_rp (N := 139) HPL'.out (by decide)) (VN_rp (z := p) (N := 129) (by have := HP0.out; omega) (by decide)) (by have := HP0.out; omega) W)
   obtain ⟨Qr, hQr⟩ : ∃ x, Rat.divInt (S : Int) (p : Int) = x := ⟨_, rfl⟩
   rw [hQr] at HNW
   have HFIN := Lib.hid (show Rat.divInt (((kq q ds).sum : Nat) : Int) ((q ^ 32 : Nat) : Int) = Qr from by rw [hS, hp]; exact hQr)
   clear hT hS hp hQr HPL'
   go_wp2_with fail
   refine (HQ.out _).mono ?_
   rintro e w2 ⟨rfl, hb2⟩
   go_wp2_with fail
   refine (HP32.out _).mono ?_
   rintro e w3 ⟨rfl, hb3⟩
   have hbA := bstep hb2 (bstep hb3 ((Below.refl _ w3).alloc (Nat.le_refl _) (.cells #[.bool false, .string (mg p)] 36)))
   have H6a := Lib.hid (H6.out.below hbA)
   have H9 := Lib.hid (BC.new w3 w3.heap.size #[.bool false, .string (mg p)] 36 rfl)
   have HLa := Lib.hid (HLr.out.trans (hbA.mono (by have := HLr.out.size; have := HBE.out; omega)))
   have H4a := Lib.hid (H4.out.below hbA)
   obtain ⟨W3, hW3⟩ : ∃ W, w3.alloc (.cells #[.bool false, .string (mg p)] 36) = W := ⟨_, rfl⟩
   obtain ⟨B9, hB9⟩ : ∃ B, w3.heap.size = B := ⟨_, rfl⟩
   rw [hW3] at H6a H9 HLa H4a
   rw [hB9] at H9
   clear hb2 hb3 hbA H6 H4 HLr
   have x0 := H6a.out.at 0 _ rfl
   have x1 := H6a.out.at 1 _ rfl
   have x2 := H9.out.at 0 _ rfl
   have x3 := H9.out.at 1 _ rfl
   go_wp2_with fail
   clear hW3 hB9
   refine (HNW.out _).mono ?_
   rintro e w4 ⟨rfl, hb4⟩
   have HLb := Lib.hid (HLa.out.trans (hb4.mono (by have := HLa.out.size; have := HBE.out; omega)))
   have H4b := Lib.hid (H4a.out.below hb4)
   clear hb4 x0 x1 x2 x3 H6a HLa H4a H9
   have y0 := H4b.out.at 0 _ rfl
   have y1 := H4b.out.at 1 _ rfl
   have y2 := H4b.out.at 2 _ rfl
   have y3 := H4b.out.at 3 _ rfl
   have z0 := H4b.out.z 0 (by simp)
   have z1 := H4b.out.z 1 (by simp)
   have z2 := H4b.out.z 2 (by simp)
   have z3 := H4b.out.z 3 (by simp)
   go_wp2_with fail
   have e4 := ((((H4b.out.set 0 (.bool (sgn Qr.num)) (by simp)).set 1 (.string (mg Qr.num.natAbs)) (by simp)).set 2 (.bool false) (by simp)).set 3 (.string (mg Qr.den)) (by simp))
   have f0 := e4.at 0 _ rfl
   have f1 := e4.at 1 _ rfl
   have f2 := e4.at 2 _ rfl
   have f3 := e4.at 3 _ rfl
   refine bodyPost_ret (v := .tuple #[.agg #[.bool (sgn Qr.num), .string (mg Qr.num.natAbs), .bool false, .string (mg Qr.den)], .int .i64 0]) (by simp [results, Tryz.results52, go_sem, f0, f1, f2, f3]) rfl ?_
   rw [HFIN.out]
   refine ⟨rfl, ?_⟩
   rw [HBE.out]
   exact ((((HLb.out.setCell (p := ⟨B4, 0, none⟩) (Nat.le_refl _) _).setCell (p := ⟨B4, 1, none⟩) (Nat.le_refl _) _).setCell (p := ⟨B4, 2, none⟩) (Nat.le_refl _) _).setCell (p := ⟨B4, 3, none⟩) (Nat.le_refl _) _)
end Go.Proofs.Gv
