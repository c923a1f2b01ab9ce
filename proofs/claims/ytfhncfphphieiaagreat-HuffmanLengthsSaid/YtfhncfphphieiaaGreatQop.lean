import Derived.Test.YtfhncfphphieiaaGreatHoptP
set_option maxHeartbeats 8000000
set_option maxRecDepth 100000
set_option linter.unusedSimpArgs false
set_option linter.unusedVariables false
namespace Go.Proofs.Gv
open Go Go.RowKit Go.Maps
def NRo (W : World) (g : Addr) (ds : List Nat) : Prop := ∀ (i d : Nat), ds[i]? = some d → W.cell? (g.add i) = some (.int .i64 (d : Int))
theorem NRo.at_ {W : World} {g : Addr} {ds : List Nat} (h : NRo W g ds) (i d : Nat) (e : ds[i]? = some d) : W.cell? (g.add i) = some (.int .i64 (d : Int)) := h i d e
theorem NRo.below {W W' : World} {g : Addr} {ds : List Nat} (h : NRo W g ds) (hb : Below W.heap.size W W') : NRo W' g ds := fun i d hi => (hb.cell (World.block_lt_of_cell? _ _ (h i d hi))).trans (h i d hi)
theorem NRo.row {W : World} {g : Addr} {c : Nat} {ds : List Nat} (h : NRo W g ds) {n : Nat} (hn : n = ds.length) : RowO W (.slice (some g) n c) (natV ds) := by
 subst hn
 refine ⟨some g, c, by rw [natV_len], fun i x hi => ⟨g, rfl, ?_⟩⟩
 unfold natV at hi
 rw [List.getElem?_map] at hi
 cases hd : ds[i]? with
 | none => rw [hd] at hi; cases hi
 | some k => rw [hd] at hi; cases hi; exact h.at_ i k hd
theorem RowO.nr {W : World} {v : Value} {ds : List Nat} (h : RowO W v (natV ds)) (h0 : 0 < ds.length) : ∃ g c, v = .slice (some g) ds.length c ∧ NRo W g ds := by
 obtain ⟨a, c, rfl, hat⟩ := h
 rw [natV_len]
 obtain ⟨g, rfl, hc⟩ := hat 0 _ (natV_at h0)
 refine ⟨g, c, rfl, fun i d hi => ?_⟩
 obtain ⟨g', e, hc'⟩ := hat i (.int .i64 (d : Int)) (by unfold natV; rw [List.getElem?_map, hi]; rfl)
 cases e
 exact hc'
theorem costO_any (a : Option Addr) (cap N : Nat) (Ws ds : List Nat) (v : Value) (hl : ds.length = Ws.length) (h3 : Ws.length ≤ 1000) (h1 : ∀ z ∈ Ws, z < 2 ^ N) (h2 : ∀ d ∈ ds, d < 2 ^ 62) (hN : N ≤ 1000000) (w : World) (hSl : Sl w a (VL Ws)) (hv : RowO w v (natV ds)) :
  Calls Tryz.prog 34 #[.slice a Ws.length cap, v] w fun e w' => e = .returned (VN (csum Ws ds)) ∧ Below w.heap.size w w' := by
 obtain ⟨ad, c, rfl, hat⟩ := hv
 rw [natV_len, hl]
 have HP := Lib.hid (prods_len hl)
 have HCB := Lib.hid (csum_lt hl h1 h2 h3)
 have HAT := Lib.hid hat
 have HSL := Lib.hid hSl
 have HL := Lib.hid hl
 have HW1 := Lib.hid h1
 have HD2 := Lib.hid h2
 have HP4 := Lib.hid ((BC.new w w.heap.size #[.bool false, .string ⟨#[]⟩] 36 rfl).alloc (.cells #[.bool false, .string ⟨#[]⟩] 36))
 have HP5 := Lib.hid (BC.new (w.alloc (.cells #[.bool false, .string ⟨#[]⟩] 36)) (w.heap.size + 1) #[.bool false, .string ⟨#[]⟩] 36 (by simp))
 have HB := Lib.hid (((Below.refl w.heap.size w).alloc (Nat.le_refl _) (.cells #[.bool false, .string ⟨#[]⟩] 36)).alloc (by simp) (.cells #[.bool false, .string ⟨#[]⟩] 36))
 clear hat hSl hl h1 h2
 go_enter Tryz.func34, Tryz.ntmps34
 go_wp2
 obtain ⟨W0, hW0⟩ : ∃ W, (w.alloc (.cells #[.bool false, .string ⟨#[]⟩] 36)).alloc (.cells #[.bool false, .string ⟨#[]⟩] 36) = W := ⟨_, rfl⟩
 rw [hW0] at HP4 HP5 HB ⊢
 clear hW0
 obtain ⟨B4, hB4⟩ : ∃ B, w.heap.size = B := ⟨_, rfl⟩
 have hx : (w.heap.size + 1) = B4 + 1 := by rw [hB4]
 rw [hB4] at HP4 HP5 HB ⊢
 have HB4 := Lib.hid hB4
 clear hB4 hx
 go_loopg [10] (Ws.length + 1) (fun gg v10 wr => ∃ i : Nat, v10 = .int .i64 (i : Int) ∧ i ≤ Ws.length ∧ Ws.length - i < gg ∧ BC wr B4 [.bool false, .string ⟨#[]⟩] ∧ BC wr (B4 + 1) [.bool false, .string (mg ((prods Ws ds).take i).sum)] ∧ Below B4 w wr)
 case atStart => exact ⟨0, rfl, Nat.zero_le _, by omega, HP4.out, by rw [List.take_zero, show ([] : List Nat).sum = 0 from rfl, mg_zero]; exact HP5.out, HB.out⟩
 case round =>
  obtain ⟨i, rfl, hi, hig, h4, h5, hb⟩ := hrel
  clear HP4 HP5 HB
  have HP4 := Lib.hid h4
  have HP5 := Lib.hid h5
  have HB := Lib.hid hb
  have HG := Lib.hid hig
  clear h4 h5 hb hig
  by_cases hlt : i < Ws.length
  ·have hltI : (i : Int) < Ws.length := by omega
   obtain ⟨x, hx⟩ : ∃ x, Ws[i]? = some x := ⟨Ws[i], List.getElem?_eq_getElem hlt⟩
   obtain ⟨d, hd⟩ : ∃ d, ds[i]? = some d := ⟨ds[i]'(by rw [HL.out]; exact hlt), List.getElem?_eq_getElem _⟩
   have HBW := Lib.hid (show Below w.heap.size w wr by rw [HB4.out]; exact HB.out)
   obtain ⟨A, rfl, c0, c1⟩ := (HSL.out.below HBW.out) i false (mg x) (by unfold VL; rw [List.getElem?_map, hx]; rfl)
   have c2 : wr.cell? ⟨(A.add (i * 2)).block, (A.add (i * 2)).off + 1, none⟩ = some (.string (mg x)) := by rw [addr_next]; exact c1
   obtain ⟨g, rfl, hcd⟩ := HAT.out i _ (by unfold natV; rw [List.getElem?_map, hd]; rfl)
   have hgl := World.block_lt_of_cell? w _ hcd
   have c3 := (HBW.out.cell (p := g.add i) hgl).trans hcd
   have HX := Lib.hid (take_sum_succ (prods_at hx hd))
   have hxs := HW1.out x (List.mem_of_getElem? hx)
   have hds := HD2.out d (List.mem_of_getElem? hd)
   have hpt := take_sum_le (prods Ws ds) i
   have hps : x * d < 2 ^ (N + 62) := by rw [Nat.pow_add]; exact Nat.mul_lt_mul'' hxs hds
   have HOF := Lib.hid (fun W => show Calls Tryz.prog 20 #[.int .i64 (d : Int)] W fun e w' => e = .returned (.agg #[.bool false, .string (mg d)]) ∧ Below W.heap.size W w' from by
    have := cOf (d : Int) (by omega) (by omega) W
    rwa [Int.natAbs_natCast, show sgn (d : Int) = false from decide_eq_false (by omega)] at this)
   have HMU := Lib.hid (fun W => show Calls Tryz.prog 68 #[.agg #[.bool false, .string (mg x)], .agg #[.bool false, .string (mg d)]] W fun e w' => e = .returned (.agg #[.bool false, .string (mg (x * d))]) ∧ Below W.heap.size W w' from by
    have := cMul (VN_rp (N := N) hxs (by omega)) (VN_rp (N := 62) hds (by omega)) W
    rwa [show (x : Int) * (d : Int) = ((x * d : Nat) : Int) by simp, Int.natAbs_natCast, show sgn ((x * d : Nat) : Int) = false from decide_eq_false (by omega)] at this)
   have HAD := Lib.hid (fun W => show Calls Tryz.prog 66 #[.agg #[.bool false, .string (mg ((prods Ws ds).take i).sum)], .agg #[.bool false, .string (mg (x * d))]] W fun e w' => e = .returned (.agg #[.bool false, .string (mg (((prods Ws ds).take i).sum + x * d))]) ∧ Below W.heap.size W w' from by
    have := cAdd (VN_rp (z := ((prods Ws ds).take i).sum) (N := N + 62 + 10) (Nat.lt_of_le_of_lt hpt HCB.out) (by omega)) (VN_rp (N := N + 62) hps (by omega)) W
    rwa [show ((((prods Ws ds).take i).sum : Nat) : Int) + ((x * d : Nat) : Int) = ((((prods Ws ds).take i).sum + x * d : Nat) : Int) by simp, Int.natAbs_natCast, show sgn ((((prods Ws ds).take i).sum + x * d : Nat) : Int) = false from decide_eq_false (by omega)] at this)
   obtain ⟨S, hS⟩ : ∃ S, ((prods Ws ds).take i).sum = S := ⟨_, rfl⟩
   obtain ⟨xd, hxd⟩ : ∃ y, x * d = y := ⟨_, rfl⟩
   rw [hS] at HX HAD HP5
   rw [hxd] at HX HAD HMU
   have HA4 := Lib.hid (HP4.out.alloc (.cells #[.bool false, .string (mg x)] 36))
   have HA5 := Lib.hid (HP5.out.alloc (.cells #[.bool false, .string (mg x)] 36))
   have HA7 := Lib.hid (BC.new wr wr.heap.size #[.bool false, .string (mg x)] 36 rfl)
   have HAB := Lib.hid (HB.out.alloc (by have := HB.out.size; have := HB4.out; omega) (.cells #[.bool false, .string (mg x)] 36))
   have HC3 := Lib.hid (((Below.refl wr.heap.size wr).alloc (Nat.le_refl _) (.cells #[.bool false, .string (mg x)] 36)).cell (p := g.add i) (World.block_lt_of_cell? wr _ c3))
   have c4 := HC3.out.trans c3
   clear hxs hds hpt hps hS hxd hx hd hcd hgl HC3
   go_wp2_with fail
   obtain ⟨W, hW⟩ : ∃ W, wr.alloc (.cells #[.bool false, .string (mg x)] 36) = W := ⟨_, rfl⟩
   rw [hW] at HA4 HA5 HA7 HAB c4 ⊢
   clear hW
   refine wp_region_front 9 zvI (by kernel_rfl) shI (by kernel_rfl) (by kernel_rfl) (zvI_alloc _ (by kernel_rfl)) (shI_store _ (by kernel_rfl)) ?_
   intro mm BW hm1 hm2 hBW
   haveI := clm_some mm BW
   have fq0 := fun u : Clm mm BW => u.cell hm1 hBW (HA5.out.at 0 _ rfl)
   have fr0 := fun u : Clm mm BW => u.cell hm1 hBW (HA5.out.at 1 _ rfl)
   have fq1 := fun u : Clm mm BW => u.cell hm1 hBW (HA7.out.at 0 _ rfl)
   have fr1 := fun u : Clm mm BW => u.cell hm1 hBW (HA7.out.at 1 _ rfl)
   have fs1 := fun u : Clm mm BW => u.cellM hm1 hBW c4
   simp only [frontOf, unmade, List.take_succ_cons, List.take_zero, List.map_cons, List.map_nil]
   iterate 6 (go_big_quiet_step (fail))
   go_big_quiet_step ((go_at_call 20; exact quiet_clm hm2 HOF.out _))
   go_big_quiet_step ((go_at_call 68; exact quiet_clm hm2 HMU.out _))
   go_big_quiet_step ((go_at_call 66; exact quiet_clm hm2 HAD.out _))
   refine wpQuiet_nil ?_
   refine ⟨List.forall_mem_nil _, ?_⟩
   intro γ w9 hB9 hF
   clear hF hBW this hm1 hm2 fq0 fr0 fq1 fr1 fs1
   clear BW mm
   simp only [madesFrom, Facts, patch, List.take_succ_cons, List.take_zero, List.drop_succ_cons, List.drop_zero]
   clear γ
   have HQ4 := Lib.hid (HA4.out.below hB9)
   have HQ5 := Lib.hid (HA5.out.below hB9)
   have HQB := Lib.hid (HAB.out.grown (Below.grows hB9) (by rw [← HB4.out]; exact HAB.out.size) (fun k e => by cases e))
   clear hB9 HA4 HA5 HA7 HAB c4 HP4 HP5 HB HOF HMU HAD
   have x0 := HQ5.out.at 0 _ rfl
   have x1 := HQ5.out.at 1 _ rfl
   have z0 := HQ5.out.z 0 (by simp)
   have z1 := HQ5.out.z 1 (by simp)
   go_wp2_with fail
   go_roundg (Ws.length - i)
   case rel =>
    refine ⟨i + 1, by go_num, by omega, by omega, (HQ4.out.other 0 _ (by simp)).other 1 _ (by simp), ?_, (HQB.out.setCell (p := ⟨_, 0, none⟩) (by simp) _).setCell (p := ⟨_, 1, none⟩) (by simp) _⟩
    rw [HX.out]
    exact HQ5.out.set2 0 1 _ _ (by simp) (by simp)
   case measure => have := HG.out; omega
  ·obtain rfl : i = Ws.length := by omega
   have hB : decide ((Ws.length : Int) < Ws.length) = false := by simp
   have x0 := HP5.out.at 0 _ rfl
   have x1 := HP5.out.at 1 _ rfl
   have y0 := HP4.out.at 0 _ rfl
   have y1 := HP4.out.at 1 _ rfl
   have z0 := HP4.out.z 0 (by simp)
   have z1 := HP4.out.z 1 (by simp)
   have HS := Lib.hid (show ((prods Ws ds).take Ws.length).sum = csum Ws ds from by rw [List.take_of_length_le (by rw [HP.out]; exact Nat.le_refl _)]; rfl)
   have HF := Lib.hid (HP4.out.set2 0 1 (.bool false) (.string (mg ((prods Ws ds).take Ws.length).sum)) (by simp) (by simp))
   go_wp2
   have p0 := HF.out.at 0 _ rfl
   have p1 := HF.out.at 1 _ rfl
   refine bodyPost_ret (v := .agg #[.bool false, .string (mg ((prods Ws ds).take Ws.length).sum)]) (by simp [results, Tryz.results34, go_sem, p0, p1]) rfl ⟨?_, ?_⟩
   ·rw [HS.out]; rfl
   ·rw [HB4.out]
    exact (HB.out.setCell (p := ⟨_, 0, none⟩) (Nat.le_refl _) _).setCell (p := ⟨_, 1, none⟩) (Nat.le_refl _) _
theorem idxO_any (v : Value) (xs : List Int) (hx : xs.length ≤ maxLen) (w : World) (hv : RowO w v (intsV xs)) :
  Calls Tryz.prog 67 #[v, .func (.func 33) #[] #[]] w fun e w' => ∃ r : Int, e = .returned (.int .i64 r) ∧ decide (0 ≤ r) = xs.any badL ∧ w' = w := by
 obtain ⟨a, c, rfl, hat⟩ := hv
 rw [intsV_len]
 unfold maxLen at hx
 have HAT := Lib.hid hat
 clear hat
 go_enter Tryz.func67, Tryz.ntmps67
 go_wp2
 go_loopg [8] (xs.length + 1) (fun gg v8 wr => ∃ i : Nat, v8 = .int .i64 (i : Int) ∧ i ≤ xs.length ∧ xs.length - i < gg ∧ (xs.take i).any badL = false ∧ wr = w)
 case atStart => exact ⟨0, rfl, Nat.zero_le _, by omega, rfl, rfl⟩
 case round =>
  obtain ⟨i, rfl, hi, hig, hno, ew⟩ := hrel
  subst ew
  have HG := Lib.hid hig
  have HNO := Lib.hid hno
  clear hig hno
  by_cases hlt : i < xs.length
  ·have hltI : (i : Int) < xs.length := by omega
   obtain ⟨x, hx2⟩ : ∃ x, xs[i]? = some x := ⟨xs[i], List.getElem?_eq_getElem hlt⟩
   obtain ⟨g, rfl, c0⟩ := HAT.out i _ (by unfold intsV; rw [List.getElem?_map, hx2]; rfl)
   have HX2 := Lib.hid hx2
   have HCB := Lib.hid (fun W => badL_any x W)
   clear hx2
   cases hb : badL x with
   | true =>
     rw [hb] at HCB
     have HBB := Lib.hid hb
     clear hb
     go_wp2_with fail
     refine (HCB.out _).mono ?_
     rintro e w1 ⟨rfl, ew⟩
     subst ew
     go_wp2
     go_ret
     refine ⟨_, rfl, ?_, rfl⟩
     have : xs.any badL = true := List.any_eq_true.2 ⟨x, List.mem_of_getElem? HX2.out, HBB.out⟩
     rw [this]
     simp
   | false =>
     rw [hb] at HCB
     have HBB := Lib.hid hb
     clear hb
     go_wp2_with fail
     refine (HCB.out _).mono ?_
     rintro e w1 ⟨rfl, ew⟩
     subst ew
     go_wp2
     go_roundg (xs.length - i)
     case rel =>
      refine ⟨i + 1, by go_num, by omega, by omega, ?_, rfl⟩
      rw [List.take_add_one, HX2.out, List.any_append, HNO.out]
      simp [HBB.out]
     case measure => have := HG.out; omega
  ·obtain rfl : i = xs.length := by omega
   have hB : decide ((xs.length : Int) < xs.length) = false := by simp
   go_wp2
   go_ret
   refine ⟨-1, rfl, ?_, rfl⟩
   have := HNO.out
   rw [List.take_length] at this
   rw [this]
   rfl
theorem containsO_any (v : Value) (xs : List Int) (hx : xs.length ≤ maxLen) (w : World) (hv : RowO w v (intsV xs)) :
  Calls Tryz.prog 32 #[v, .func (.func 33) #[] #[]] w fun e w' => e = .returned (.bool (xs.any badL)) ∧ w' = w := by
 have HI := Lib.hid (idxO_any v xs hx w hv)
 clear hv
 go_enter Tryz.func32, Tryz.ntmps32
 go_wp2_with fail
 refine HI.out.mono ?_
 rintro e w1 ⟨r, rfl, hr, ew⟩
 subst ew
 have HR := Lib.hid hr
 clear hr
 go_wp2
 go_ret
 exact ⟨by rw [← HR.out]; rfl, rfl⟩
theorem CostO_any (cap : Nat) (a : Option Addr) (L : List (Bool × ByteArray)) (v : Value) (xs : List Int) (hL : L.length ≤ maxLen) (hx : xs.length ≤ maxLen) (hz : ∀ x ∈ L, x.2.size ≤ 100000) (w : World) (hSl : Sl w a L) (hv : RowO w v (intsV xs)) :
  Calls Tryz.prog 12 #[.slice a L.length cap, v] w fun e w' => (∃ z : Nat, e = .returned (.tuple #[VN z, .int .i64 (costE L xs)]) ∧ (costE L xs ≠ 0 → z = 0) ∧ (costE L xs = 0 → ∃ (Ws ds : List Nat), L = VL Ws ∧ xs = ds.map (fun (k : Nat) => (k : Int)) ∧ ds.length = Ws.length ∧ 2 ≤ Ws.length ∧ Ws.length ≤ 64 ∧ (∀ d ∈ ds, 1 ≤ d ∧ d ≤ 64) ∧ z = csum Ws ds)) ∧ Below w.heap.size w w' := by
 have HCK := Lib.hid (fun w1 (hb1 : Below w.heap.size w w1) => checkW_any a cap L w1 hL (fun x hx => Nat.le_trans (hz x hx) (by decide)) (hSl.below hb1))
 by_cases h0 : chkW L = 0
 ·rw [h0] at HCK
  have HC2 := Lib.hid (HCK.out (w.alloc (.cells #[.bool false, .string ⟨#[]⟩] 36)) ((Below.refl _ w).alloc (Nat.le_refl _) _))
  have HP4 := Lib.hid (BC.new w w.heap.size #[.bool false, .string ⟨#[]⟩] 36 rfl)
  have HB0 := Lib.hid ((Below.refl w.heap.size w).alloc (Nat.le_refl _) (.cells #[.bool false, .string ⟨#[]⟩] 36))
  have HSL := Lib.hid hSl
  have HV := Lib.hid hv
  obtain ⟨g1, g2, Ws, hWs⟩ := chkW_ok h0
  have HZ := Lib.hid hz
  have HWS := Lib.hid hWs
  obtain ⟨ad, c, rfl, hat⟩ := hv
  rw [intsV_len] at HV ⊢
  clear hSl hz HCK hat hWs
  by_cases hl : xs.length = L.length
  ·have hlB : (xs.length != L.length) = false := by simp [hl]
   cases hbd : xs.any badL with
   | true =>
     have hE : costE L xs = 2 := by unfold costE; rw [if_neg (by simp [h0]), if_neg (by simp [hl]), if_pos hbd]
     rw [hE]
     have HCT := Lib.hid (fun w1 (hb : Below w.heap.size w w1) => containsO_any (.slice ad xs.length c) xs hx w1 (HV.out.below hb))
     rw [hbd] at HCT
     clear hE hbd
     go_enter Tryz.func12, Tryz.ntmps12
     go_wp2_with fail
     refine HC2.out.mono ?_
     rintro e w1 ⟨rfl, hb1⟩
     have HP5 := Lib.hid (HP4.out.below hb1)
     have HB1 := Lib.hid (HB0.out.grown (Below.grows hb1) HB0.out.size (fun k e => by cases e))
     have HC3 := Lib.hid (HCT.out w1 HB1.out)
     rw [hl] at HC3
     have x0 := HP5.out.at 0 _ rfl
     have x1 := HP5.out.at 1 _ rfl
     have z0 := HP5.out.z 0 (by simp)
     have z1 := HP5.out.z 1 (by simp)
     have HF := Lib.hid (HP5.out.set2 0 1 (.bool false) (.string ⟨#[]⟩) (by simp) (by simp))
     clear hb1
     clear HCT
     go_wp2_with fail
     refine HC3.out.mono ?_
     rintro e w2 ⟨rfl, ew⟩
     subst ew
     go_wp2
     have p0 := HF.out.at 0 _ rfl
     have p1 := HF.out.at 1 _ rfl
     refine bodyPost_ret (v := .tuple #[.agg #[.bool false, .string ⟨#[]⟩], .int .i64 2]) (by simp [results, Tryz.results12, go_sem, p0, p1]) rfl ⟨⟨0, ?_, fun _ => rfl, fun h => absurd h (by decide)⟩, ?_⟩
     ·unfold VN; rw [mg_zero]
     ·exact (HB1.out.setCell (p := ⟨_, 0, none⟩) (Nat.le_refl _) _).setCell (p := ⟨_, 1, none⟩) (Nat.le_refl _) _
   | false =>
     obtain ⟨ds, hds, hd⟩ := not_bad hbd
     have hE : costE L xs = 0 := by unfold costE; rw [if_neg (by simp [h0]), if_neg (by simp [hl]), if_neg (by simp [hbd])]
     rw [hE]
     have HCT := Lib.hid (fun w1 (hb : Below w.heap.size w w1) => containsO_any (.slice ad xs.length c) xs hx w1 (HV.out.below hb))
     rw [hbd] at HCT
     have hLl : L.length = Ws.length := by rw [HWS.out, List.length_map]
     have hdl : ds.length = Ws.length := by rw [← hLl, ← hl, hds, List.length_map]
     obtain ⟨N, hN⟩ : ∃ N, 800000 = N := ⟨_, rfl⟩
     have HCO := Lib.hid (fun w1 (hb : Below w.heap.size w w1) => costO_any a cap N Ws ds (.slice ad xs.length c) hdl (by omega) (fun z hm => mg_lt (HZ.out (false, mg z) (by rw [HWS.out]; exact List.mem_map.2 ⟨z, hm, rfl⟩)) (by omega)) (fun d hm => by have := hd d hm; omega) (by omega) w1 (by rw [show VL Ws = L from HWS.out.symm]; exact HSL.out.below hb) (by rw [← intsV_nat, ← hds]; exact HV.out.below hb))
     rw [← hLl] at HCO
     have HFF := Lib.hid (show L = VL Ws ∧ xs = ds.map (fun (k : Nat) => (k : Int)) ∧ ds.length = Ws.length ∧ (∀ d ∈ ds, 1 ≤ d ∧ d ≤ 64) ∧ 2 ≤ Ws.length ∧ Ws.length ≤ 64 from ⟨HWS.out, hds, hdl, hd, by rw [← hLl]; exact g1, by rw [← hLl]; exact g2⟩)
     clear hE hbd hds hd hdl hN hLl
     go_enter Tryz.func12, Tryz.ntmps12
     go_wp2_with fail
     refine HC2.out.mono ?_
     rintro e w1 ⟨rfl, hb1⟩
     have HP5 := Lib.hid (HP4.out.below hb1)
     have HB1 := Lib.hid (HB0.out.grown (Below.grows hb1) HB0.out.size (fun k e => by cases e))
     have HC3 := Lib.hid (HCT.out w1 HB1.out)
     rw [hl] at HC3
     have HC4 := Lib.hid (HCO.out w1 HB1.out)
     rw [hl] at HC4
     clear hb1 HCT HCO
     go_wp2_with fail
     refine HC3.out.mono ?_
     rintro e w2 ⟨rfl, ew⟩
     subst ew
     go_wp2_with fail
     refine HC4.out.mono ?_
     rintro e w3 ⟨rfl, hb3⟩
     have HP6 := Lib.hid (HP5.out.below hb3)
     have HB3 := Lib.hid (HB1.out.grown (Below.grows hb3) HB1.out.size (fun k e => by cases e))
     have x0 := HP6.out.at 0 _ rfl
     have x1 := HP6.out.at 1 _ rfl
     have z0 := HP6.out.z 0 (by simp)
     have z1 := HP6.out.z 1 (by simp)
     have HF := Lib.hid (HP6.out.set2 0 1 (.bool false) (.string (mg (csum Ws ds))) (by simp) (by simp))
     clear hb3
     unfold VN
     go_wp2
     have p0 := HF.out.at 0 _ rfl
     have p1 := HF.out.at 1 _ rfl
     refine bodyPost_ret (v := .tuple #[.agg #[.bool false, .string (mg (csum Ws ds))], .int .i64 0]) (by simp [results, Tryz.results12, go_sem, p0, p1]) rfl ⟨⟨csum Ws ds, rfl, fun h => absurd rfl h, fun _ => ⟨Ws, ds, HFF.out.1, HFF.out.2.1, HFF.out.2.2.1, HFF.out.2.2.2.2.1, HFF.out.2.2.2.2.2, HFF.out.2.2.2.1, rfl⟩⟩, ?_⟩
     exact (HB3.out.setCell (p := ⟨_, 0, none⟩) (Nat.le_refl _) _).setCell (p := ⟨_, 1, none⟩) (Nat.le_refl _) _
  ·have hlB : ((xs.length : Int) != L.length) = true := by simp; omega
   have hlB2 : ((xs.length : Int) == L.length) = false := by simp; omega
   have hlN : ¬ (xs.length : Int) = L.length := by omega
   have hE : costE L xs = 11 := by unfold costE; rw [if_neg (by simp [h0]), if_pos hl]
   rw [hE]
   clear hE
   go_enter Tryz.func12, Tryz.ntmps12
   go_wp2_with fail
   refine HC2.out.mono ?_
   rintro e w1 ⟨rfl, hb1⟩
   have HP5 := Lib.hid (HP4.out.below hb1)
   have HB1 := Lib.hid (HB0.out.grown (Below.grows hb1) HB0.out.size (fun k e => by cases e))
   have x0 := HP5.out.at 0 _ rfl
   have x1 := HP5.out.at 1 _ rfl
   have z0 := HP5.out.z 0 (by simp)
   have z1 := HP5.out.z 1 (by simp)
   have HF := Lib.hid (HP5.out.set2 0 1 (.bool false) (.string ⟨#[]⟩) (by simp) (by simp))
   clear hb1
   go_wp2
   have p0 := HF.out.at 0 _ rfl
   have p1 := HF.out.at 1 _ rfl
   refine bodyPost_ret (v := .tuple #[.agg #[.bool false, .string ⟨#[]⟩], .int .i64 11]) (by simp [results, Tryz.results12, go_sem, p0, p1]) rfl ⟨⟨0, ?_, fun _ => rfl, fun h => absurd h (by decide)⟩, ?_⟩
   ·unfold VN; rw [mg_zero]
   ·exact (HB1.out.setCell (p := ⟨_, 0, none⟩) (Nat.le_refl _) _).setCell (p := ⟨_, 1, none⟩) (Nat.le_refl _) _
 ·have hE : costE L xs = chkW L := by unfold costE; rw [if_pos h0]
  rw [hE]
  have hcB : (chkW L != 0) = true := by simp [h0]
  have HH := Lib.hid h0
  obtain ⟨cc, hcc⟩ : ∃ c, chkW L = c := ⟨_, rfl⟩
  rw [hcc] at HCK hcB HH h0 ⊢
  have HC2 := Lib.hid (HCK.out (w.alloc (.cells #[.bool false, .string ⟨#[]⟩] 36)) ((Below.refl _ w).alloc (Nat.le_refl _) _))
  have HP4 := Lib.hid (BC.new w w.heap.size #[.bool false, .string ⟨#[]⟩] 36 rfl)
  have HB0 := Lib.hid ((Below.refl w.heap.size w).alloc (Nat.le_refl _) (.cells #[.bool false, .string ⟨#[]⟩] 36))
  clear hSl hz hE hcc HCK hv
  go_enter Tryz.func12, Tryz.ntmps12
  go_wp2_with fail
  refine HC2.out.mono ?_
  rintro e w1 ⟨rfl, hb1⟩
  have HP5 := Lib.hid (HP4.out.below hb1)
  have HB1 := Lib.hid (HB0.out.grown (Below.grows hb1) HB0.out.size (fun k e => by cases e))
  have x0 := HP5.out.at 0 _ rfl
  have x1 := HP5.out.at 1 _ rfl
  have z0 := HP5.out.z 0 (by simp)
  have z1 := HP5.out.z 1 (by simp)
  have HF := Lib.hid (HP5.out.set2 0 1 (.bool false) (.string ⟨#[]⟩) (by simp) (by simp))
  clear hb1
  go_wp2
  have p0 := HF.out.at 0 _ rfl
  have p1 := HF.out.at 1 _ rfl
  refine bodyPost_ret (v := .tuple #[.agg #[.bool false, .string ⟨#[]⟩], .int .i64 cc]) (by simp [results, Tryz.results12, go_sem, p0, p1]) rfl ⟨⟨0, ?_, fun _ => rfl, fun h => absurd h HH.out⟩, ?_⟩
  ·unfold VN; rw [mg_zero]
  ·exact (HB1.out.setCell (p := ⟨_, 0, none⟩) (Nat.le_refl _) _).setCell (p := ⟨_, 1, none⟩) (Nat.le_refl _) _
theorem cost_ownO {k : Nat} (hk : 2 ≤ k) (hk2 : k ≤ 16) (a : Option Addr) (cap : Nat) (Ws : List Nat) (h2 : 2 ≤ Ws.length) (h64 : Ws.length ≤ 64) (N : Nat) (hN : N ≤ 500) (hW : ∀ z ∈ Ws, z < 2 ^ N) (v : Value) (W : World) (ds : List Nat) (hds : ds.length = Ws.length) (hd : ∀ d ∈ ds, 1 ≤ d ∧ d ≤ 64) (hS : Sl W a (VL Ws)) (hv : RowO W v (natV ds)) :
  Calls Tryz.prog 12 #[.slice a Ws.length cap, v] W fun e w' => e = .returned (.tuple #[.agg #[.bool false, .string (mg (csum Ws ds))], .int .i64 0]) ∧ Below W.heap.size W w' := by
 have hz : ∀ x ∈ VL Ws, x.2.size ≤ 100000 := fun x hx => by
  unfold VL at hx
  obtain ⟨z, hz, rfl⟩ := List.mem_map.1 hx
  exact Nat.le_trans (size_mg (n := z) (k := N) (Nat.lt_of_lt_of_le (hW z hz) (Nat.pow_le_pow_left (by decide) N))) (by omega)
 rw [natV_ints] at hv
 have hce : costE (VL Ws) (ds.map fun (k : Nat) => (k : Int)) = 0 := by
  unfold costE
  rw [if_neg (by rw [chkW_VL h2 h64]; simp), if_neg (by rw [List.length_map, hds, VL_len]; simp), if_neg]
  simp only [Bool.not_eq_true, List.any_eq_false, List.mem_map]
  rintro _ ⟨d, hd', rfl⟩
  have := hd d hd'
  simp [badL]; omega
 have := CostO_any cap a (VL Ws) v (ds.map fun (k : Nat) => (k : Int)) (by rw [VL_len]; unfold maxLen; omega) (by rw [List.length_map, hds]; unfold maxLen; omega) hz W hS hv
 rw [hce, VL_len] at this
 refine this.mono ?_
 rintro e w' ⟨⟨z, rfl, -, hz4⟩, hb⟩
 obtain ⟨Ws', ds', eW, eD, -, -, -, -, rfl⟩ := hz4 rfl
 obtain rfl := VL_inj eW
 obtain rfl : ds = ds' := by
  have := congrArg (List.map Int.toNat) eD
  rw [List.map_map, List.map_map] at this
  have hid : ∀ l : List Nat, l.map (Int.toNat ∘ fun (k : Nat) => (k : Int)) = l := fun l => (List.map_congr_left fun x _ => Int.toNat_natCast x).trans (List.map_id l)
  rwa [hid, hid] at this
 exact ⟨rfl, hb⟩
theorem fitsO38_any (g : Addr) (c n : Nat) (ds : List Nat) (hn : ds.length = n) (hl : n ≤ 1000) (hd : ∀ d ∈ ds, 1 ≤ d ∧ d ≤ 64) (w : World) (hr : NRo w g ds) :
  Calls Tryz.prog 37 #[.slice (some g) n c] w fun e w' => e = .returned (.bool (decide ((pws 2 ds).sum ≤ 2 ^ 64))) ∧ Below w.heap.size w w' := by
 subst hn
 have HR := Lib.hid hr
 have HD := Lib.hid hd
 have HPL := Lib.hid (pws_lt (q := 2) (by decide) ds hl)
 have HQ2 := Lib.hid (fun W => cOfN 2 (by decide) W)
 have HPW := Lib.hid (fun d W => cPowN 2 (64 - d) (by decide) (by omega) W)
 have HP64 := Lib.hid (fun W => cPowN 2 64 (by decide) (by decide) W)
 have HPX := Lib.hid (fun d => pw_lt (q := 2) (d := d) (by decide))
 obtain ⟨p64, hp64⟩ : ∃ p, (2 : Nat) ^ 64 = p := ⟨_, rfl⟩
 rw [hp64] at HP64 ⊢
 have HB64 := Lib.hid (show p64 < 2 ^ pwN from by rw [← hp64]; exact pw_lt (q := 2) (d := 0) (by decide))
 clear hr hd hp64
 go_enter Tryz.func37, Tryz.ntmps37
 go_wp2_with fail
 refine (HQ2.out _).mono ?_
 rintro e w1 ⟨rfl, hb1⟩
 go_wp2_with fail
 refine (HP64.out _).mono ?_
 rintro e w2 ⟨rfl, hb2⟩
 have hbA := bstep hb1 (bstep hb2 ((Below.refl _ w2).alloc (Nat.le_refl _) (.cells #[.bool false, .string (mg p64)] 36)))
 have hbB := bstep hbA ((Below.refl _ (w2.alloc (.cells #[.bool false, .string (mg p64)] 36))).alloc (Nat.le_refl _) (.cells #[.bool false, .string ⟨#[]⟩] 36))
 have HL1 := Lib.hid hbB
 have HB3 := Lib.hid ((BC.new w2 w2.heap.size #[.bool false, .string (mg p64)] 36 rfl).alloc (.cells #[.bool false, .string ⟨#[]⟩] 36))
 have HB5 := Lib.hid (show BC ((w2.alloc (.cells #[.bool false, .string (mg p64)] 36)).alloc (.cells #[.bool false, .string ⟨#[]⟩] 36)) (w2.heap.size + 1) [.bool false, .string (mg 0)] from by rw [mg_zero]; exact BC.new (w2.alloc (.cells #[.bool false, .string (mg p64)] 36)) (w2.heap.size + 1) #[.bool false, .string ⟨#[]⟩] 36 (by simp))
 have HO := Lib.hid (show w.heap.size ≤ w2.heap.size from Nat.le_trans hb1.size hb2.size)
 obtain ⟨W1, hW1⟩ : ∃ W, (w2.alloc (.cells #[.bool false, .string (mg p64)] 36)).alloc (.cells #[.bool false, .string ⟨#[]⟩] 36) = W := ⟨_, rfl⟩
 obtain ⟨B3, hB3⟩ : ∃ B, w2.heap.size = B := ⟨_, rfl⟩
 rw [hW1] at HL1 HB3 HB5
 rw [hB3] at HB3 HB5 HO
 clear hb1 hb2 hbA hbB
 go_wp2_with fail
 clear hW1 hB3
 obtain ⟨B5, hB5⟩ : ∃ B, B3 + 1 = B := ⟨_, rfl⟩
 have HO5 := Lib.hid (show B3 < B5 from by omega)
 rw [hB5] at HB5 ⊢
 clear hB5
 replace HO := Lib.hid (show w.heap.size ≤ B3 ∧ B3 < B5 from ⟨HO.out, HO5.out⟩)
 go_loopg [17] (ds.length + 1) (fun gg x17 wr => ∃ i : Nat, x17 = .int .i64 (i : Int) ∧ i ≤ ds.length ∧ ds.length - i < gg ∧ Below w.heap.size w wr ∧ BC wr B3 [.bool false, .string (mg p64)] ∧ BC wr B5 [.bool false, .string (mg ((pws 2 ds).take i).sum)])
 case atStart => exact ⟨0, rfl, Nat.zero_le _, by omega, HL1.out, HB3.out, HB5.out⟩
 case round =>
  obtain ⟨i, rfl, hi, hig, hbl, h3, h5⟩ := hrel
  have HGG := Lib.hid hig
  have HLr := Lib.hid hbl
  have H3 := Lib.hid h3
  have H5 := Lib.hid h5
  clear hig hbl h3 h5 HL1 HB3 HB5
  by_cases hlt : i < ds.length
  ·have hltI : (i : Int) < ds.length := by omega
   obtain ⟨d, hd⟩ : ∃ d, ds[i]? = some d := ⟨ds[i], List.getElem?_eq_getElem hlt⟩
   have hd1 := (HD.out d (List.mem_of_getElem? hd)).1
   have hd2 := (HD.out d (List.mem_of_getElem? hd)).2
   have c0 := (HR.out.below HLr.out).at_ i d hd
   have HSX := Lib.hid (show ((pws 2 ds).take (i + 1)).sum = ((pws 2 ds).take i).sum + 2 ^ (64 - d) from take_sum_succ (pws_at hd))
   have HST := Lib.hid (show ((pws 2 ds).take i).sum < 2 ^ (pwN + 10) from Nat.lt_of_le_of_lt (take_sum_le _ i) HPL.out)
   have HPd := Lib.hid (show ∀ W, Calls Tryz.prog 70 #[.agg #[.bool false, .string (mg 2)], .int .i64 (64 - (d : Int))] W fun e w' => e = .returned (.tuple #[.agg #[.bool false, .string (mg (2 ^ (64 - d)))], .int .i64 0]) ∧ Below W.heap.size W w' from fun W => by have := HPW.out d W; rwa [show ((64 - d : Nat) : Int) = 64 - (d : Int) by omega] at this)
   have HXd := Lib.hid (HPX.out d)
   clear hd
   obtain ⟨p, hp⟩ : ∃ p, 2 ^ (64 - d) = p := ⟨_, rfl⟩
   rw [hp] at HSX HPd HXd
   clear hp
   go_wp2_with fail
   refine (HQ2.out _).mono ?_
   rintro e w2 ⟨rfl, hb2⟩
   go_wp2_with fail
   refine (HPd.out _).mono ?_
   rintro e w3 ⟨rfl, hb3⟩
   have hbA := bstep hb2 (bstep hb3 ((Below.refl _ w3).alloc (Nat.le_refl _) (.cells #[.bool false, .string (mg p)] 36)))
   have H5a := Lib.hid (H5.out.below hbA)
   have H8 := Lib.hid (BC.new w3 w3.heap.size #[.bool false, .string (mg p)] 36 rfl)
   have HLa := Lib.hid (bstep HLr.out hbA)
   have H3a := Lib.hid (H3.out.below hbA)
   obtain ⟨W3, hW3⟩ : ∃ W, w3.alloc (.cells #[.bool false, .string (mg p)] 36) = W := ⟨_, rfl⟩
   obtain ⟨B8, hB8⟩ : ∃ B, w3.heap.size = B := ⟨_, rfl⟩
   rw [hW3] at H5a H8 HLa H3a
   rw [hB8] at H8
   clear hb2 hb3 hbA c0 H5 H3 HLr
   have x0 := H5a.out.at 0 _ rfl
   have x1 := H5a.out.at 1 _ rfl
   have x2 := H8.out.at 0 _ rfl
   have x3 := H8.out.at 1 _ rfl
   go_wp2_with fail
   clear hW3 hB8
   refine (cAddN (pwN + 10) pwN HST.out HXd.out pwN_le.2 pwN_le.1 _).mono ?_
   rintro e w4 ⟨rfl, hb4⟩
   have H5b := Lib.hid (H5a.out.below hb4)
   have HLb := Lib.hid (bstep HLa.out hb4)
   have H3b := Lib.hid (H3a.out.below hb4)
   clear hb4 x0 x1 x2 x3 H5a HLa H3a H8
   have y0 := H5b.out.at 0 _ rfl
   have y1 := H5b.out.at 1 _ rfl
   have y2 := H5b.out.z 0 (by simp)
   have y3 := H5b.out.z 1 (by simp)
   go_wp2_with fail
   go_roundg (ds.length - i)
   case rel =>
    refine ⟨i + 1, by go_num, by omega, by omega, ?_, ?_, ?_⟩
    ·have := HO.out
     exact (HLb.out.setCell (p := ⟨B5, 0, none⟩) (by simp; omega) _).setCell (p := ⟨B5, 1, none⟩) (by simp; omega) _
    ·exact H3b.out.other2 0 1 _ _ (by have := HO.out; omega)
    ·rw [HSX.out]
     exact H5b.out.set2 0 1 (.bool false) (.string (mg (((pws 2 ds).take i).sum + p))) (by simp) (by simp)
   case measure => have := HGG.out; omega
  ·obtain rfl : i = ds.length := by omega
   have hB : decide ((ds.length : Int) < ds.length) = false := by simp
   have hT : ((pws 2 ds).take ds.length).sum = (pws 2 ds).sum := by rw [List.take_of_length_le (by unfold pws; rw [List.length_map]; exact Nat.le_refl _)]
   rw [hT] at H5
   obtain ⟨S, hS⟩ : ∃ S, (pws 2 ds).sum = S := ⟨_, rfl⟩
   rw [hS] at H5 HPL
   have HSP := Lib.hid hS
   have hle := cmp_le S p64
   have HCM := Lib.hid (fun W => cCmpN (x := S) (d := p64) (pwN + 10) pwN HPL.out HB64.out pwN_le.2 pwN_le.1 W)
   obtain ⟨cm, hcm⟩ : ∃ cm, cmpI (S : Int) (p64 : Int) = cm := ⟨_, rfl⟩
   rw [hcm] at hle HCM
   have HLE := Lib.hid hle
   clear hT hS hle hcm
   have x0 := H5.out.at 0 _ rfl
   have x1 := H5.out.at 1 _ rfl
   have x2 := H3.out.at 0 _ rfl
   have x3 := H3.out.at 1 _ rfl
   go_wp2_with fail
   refine (HCM.out _).mono ?_
   rintro e w2 ⟨rfl, hb2⟩
   have HF := Lib.hid (bstep HLr.out hb2)
   clear hb2 x0 x1 x2 x3
   go_wp2
   go_ret
   rw [HSP.out, ← HLE.out]
   exact ⟨rfl, HF.out⟩
theorem OptimalO_any (cap : Nat) (a : Option Addr) (L : List (Bool × ByteArray)) (v : Value) (xs : List Int) (hL : L.length ≤ maxLen) (hx : xs.length ≤ maxLen) (hz : ∀ x ∈ L, x.2.size ≤ 8) (w : World) (hSl : Sl w a L) (hv : RowO w v (intsV xs)) :
  Calls Tryz.prog 14 #[.slice a L.length cap, v] w fun e w' => e = .returned (.tuple #[.bool (optV L xs), .int .i64 (costE L xs)]) ∧ Below w.heap.size w w' := by
 have HC := Lib.hid (CostO_any cap a L v xs hL hx (fun x hx => Nat.le_trans (hz x hx) (by decide)) w hSl hv)
 have HS := Lib.hid hSl
 have HZ := Lib.hid hz
 have HV := Lib.hid hv
 clear hL hx hSl hz hv
 by_cases h0 : ¬ costE L xs = 0
 ·have HO := Lib.hid (show optV L xs = false by unfold optV; rw [if_pos h0])
  obtain ⟨E, hE⟩ : ∃ E, costE L xs = E := ⟨_, rfl⟩
  rw [hE] at HC h0
  have HE := Lib.hid hE
  have hne : (E != 0) = true := by simpa using h0
  clear h0 hE
  go_enter Tryz.func14, Tryz.ntmps14
  go_wp2_with fail
  refine HC.out.mono ?_
  rintro e w1 ⟨⟨z, rfl, -, -⟩, hb⟩
  unfold VN
  have HB := Lib.hid (bstep hb ((Below.refl _ w1).alloc (Nat.le_refl _) (.cells #[.bool false, .string (mg z)] 36)))
  clear hb
  go_wp2
  go_ret2
  exact ⟨by rw [HO.out, HE.out]; rfl, HB.out⟩
 have h0 := Decidable.not_not.1 h0
 have hcw : chkW L = 0 := by
  cases hh : decide (chkW L = 0) with
  | true => simpa using hh
  | false => exfalso; unfold costE at h0; rw [if_pos (by simpa using hh)] at h0; simp at hh; exact hh h0
 obtain ⟨g2, g64, Ws, hWs⟩ := chkW_ok hcw
 obtain rfl : L = VL Ws := hWs
 rw [VL_len] at g2 g64
 obtain ⟨ds, hds, hdl, hd64⟩ : ∃ ds : List Nat, xs = ds.map (fun (k : Nat) => (k : Int)) ∧ ds.length = Ws.length ∧ ∀ d ∈ ds, 1 ≤ d ∧ d ≤ 64 := by
  have h1 := h0
  unfold costE at h1
  rw [if_neg (by rw [hcw]; simp)] at h1
  by_cases h2 : xs.length ≠ (VL Ws).length
  ·rw [if_pos h2] at h1; cases h1
  ·rw [if_neg h2] at h1
   by_cases h3 : xs.any badL = true
   ·rw [if_pos h3] at h1; cases h1
   ·obtain ⟨ds, e, hd⟩ := not_bad (by simpa using h3)
    refine ⟨ds, e, ?_, hd⟩
    have h2' := Decidable.not_not.1 h2
    rw [e, List.length_map, VL_len] at h2'
    exact h2'
 subst hds
 have hv' := HV.out
 rw [← natV_ints] at hv'
 obtain ⟨g, c, rfl, hnr⟩ := hv'.nr (by omega)
 have HN := Lib.hid hnr
 have HWZ := Lib.hid (VL_lt HZ.out)
 have HO := Lib.hid (show optV (VL Ws) (ds.map fun (k : Nat) => (k : Int)) = (decide ((pws 2 ds).sum ≤ 2 ^ 64) && decide (csum Ws ds = csum Ws (lenH 2 Ws))) by
  unfold optV; rw [if_neg (by rw [h0]; simp), natsOf_cast, wtsOf_VL])
 have HE := Lib.hid h0
 have HCO := Lib.hid (cost_ownO (k := 2) (by decide) (by decide) a cap Ws g2 g64 64 (by decide) HWZ.out (.slice (some g) ds.length c) w ds hdl hd64 HS.out (hnr.row rfl))
 have HLN := Lib.hid (fun W hS => len_own (k := 2) (by decide) (by decide) a cap Ws g2 g64 64 (by decide) HWZ.out W hS)
 have HFT := Lib.hid (fun W h => fitsO38_any g c ds.length ds rfl (by omega) hd64 W h)
 have HCI := Lib.hid (fun v W hS hv => cost_any a cap 64 Ws (lenH 2 Ws) v (lenH_len _ _) (by omega) HWZ.out (fun d hd => Nat.lt_of_le_of_lt (lens_64 (by decide) g2 g64 d hd).2 (by decide)) (by decide) W hS hv)
 rw [show ((2 : Nat) : Int) = 2 from rfl] at HLN
 obtain ⟨c0, hc0⟩ : ∃ c, csum Ws ds = c := ⟨_, rfl⟩
 obtain ⟨c1, hc1⟩ : ∃ c, csum Ws (lenH 2 Ws) = c := ⟨_, rfl⟩
 rw [hc0, hc1] at HO
 rw [hc0] at HCO
 rw [hc1] at HCI
 rw [VL_len]
 have HIQ := Lib.hid (show eqI false (mg c0) false (mg c1) = decide (c0 = c1) from by
  by_cases h : c0 = c1
  ·subst h; rw [eqI_iff.2 ⟨rfl, rfl⟩]; simp
  ·have : eqI false (mg c0) false (mg c1) = false := by
    cases hh : eqI false (mg c0) false (mg c1) with
    | false => rfl
    | true =>
      have := (eqI_iff.1 hh).2
      have := congrArg (fun s => bv s.data.toList) this
      simp only [bv_mg] at this
      exact absurd this h
   rw [this]; simp [h])
 have HDL := Lib.hid hdl
 clear hc0 hc1 h0 hcw hd64 hv' hnr HC HV HZ hdl
 go_enter Tryz.func14, Tryz.ntmps14
 go_wp2_with fail
 refine HCO.out.mono ?_
 rintro e w1 ⟨rfl, hb1⟩
 have hbA := bstep hb1 ((Below.refl _ w1).alloc (Nat.le_refl _) (.cells #[.bool false, .string (mg c0)] 36))
 have HB1 := Lib.hid hbA
 have HP6 := Lib.hid (BC.new w1 w1.heap.size #[.bool false, .string (mg c0)] 36 rfl)
 obtain ⟨W1, hW1⟩ : ∃ W, w1.alloc (.cells #[.bool false, .string (mg c0)] 36) = W := ⟨_, rfl⟩
 obtain ⟨B6, hB6⟩ : ∃ B, w1.heap.size = B := ⟨_, rfl⟩
 rw [hW1] at HB1 HP6
 rw [hB6] at HP6
 clear hb1 hbA
 go_wp2_with fail
 clear hW1 hB6
 refine (HLN.out _ (HS.out.below HB1.out)).mono ?_
 rintro e w2 ⟨g8, b8, rfl, p1, hb2⟩
 have HG8 := Lib.hid p1
 have HB2 := Lib.hid (bstep HB1.out hb2)
 have HP62 := Lib.hid (HP6.out.below hb2)
 clear p1 hb2 HB1 HP6
 go_wp2_with fail
 refine wp_region_mix [.q [0], .r 1, .q [2, 3, 4, 5], .r 6, .q [7, 8, 9, 10]] [] (by kernel_rfl) (by kernel_rfl) (by intro d v c a w h; cases d <;> exact h) ?_
 intro X0 hb hz
 have HG8a := Lib.hid (HG8.out.below hb)
 have HB3 := Lib.hid (bstep HB2.out hb)
 have HP63 := Lib.hid (HP62.out.below hb)
 clear hb hz HG8 HB2 HP62
 refine wpMix_q ?_
 simp only [pickO, List.map_cons, List.map_nil, List.getElem?_toArray, List.getElem?_cons_succ, List.getElem?_cons_zero, Option.getD_some]
 haveI := cv_some X0
 iterate 1 (go_big_quiet_step (fail))
 refine wpQuiet_nil ?_
 clear this
 refine wpMix_r ?_
 simp only [pickO, List.map_cons, List.map_nil, List.getElem?_toArray, List.getElem?_cons_succ, List.getElem?_cons_zero, Option.getD_some]
 go_wp2_with fail
 refine (HFT.out _ (HN.out.below HB3.out)).mono ?_
 rintro e w4 ⟨rfl, hb4⟩
 obtain ⟨fb, hfb⟩ : ∃ b, decide ((pws 2 ds).sum ≤ 2 ^ 64) = b := ⟨_, rfl⟩
 rw [hfb] at HO ⊢
 clear hfb
 have HG8b := Lib.hid (HG8a.out.below hb4)
 have HB4 := Lib.hid (bstep HB3.out hb4)
 have HP64 := Lib.hid (HP63.out.below hb4)
 cases fb with
 | false =>
   go_wp2_with fail
   refine mixQ_ok hb4 ?_
   clear hb4 HG8a HB3 HP63
   refine wpMix_q ?_
   simp only [pickO, List.map_cons, List.map_nil, List.getElem?_toArray, List.getElem?_cons_succ, List.getElem?_cons_zero, Option.getD_some]
   haveI := cv_some w4
   iterate 4 (go_big_quiet_step (fail))
   refine wpQuiet_nil ?_
   clear this
   refine wpMix_r ?_
   simp only [pickO, List.map_cons, List.map_nil, List.getElem?_toArray, List.getElem?_cons_succ, List.getElem?_cons_zero, Option.getD_some]
   go_wp2_with fail
   refine mixQ_ok (Below.refl _ _) ?_
   refine wpMix_q ?_
   simp only [pickO, List.map_cons, List.map_nil, List.getElem?_toArray, List.getElem?_cons_succ, List.getElem?_cons_zero, Option.getD_some]
   haveI := cv_some w4
   iterate 4 (go_big_quiet_step (fail))
   refine wpQuiet_nil ?_
   clear this
   refine wpMix_nil ?_
   simp only [pickO, List.map_cons, List.map_nil, List.getElem?_toArray, List.getElem?_cons_succ, List.getElem?_cons_zero, Option.getD_some]
   go_wp2
   go_ret2
   exact ⟨by rw [HO.out, HE.out, Bool.false_and]; rfl, HB4.out⟩
 | true =>
   go_wp2_with fail
   refine mixQ_ok hb4 ?_
   clear hb4 HG8a HB3 HP63
   refine wpMix_q ?_
   simp only [pickO, List.map_cons, List.map_nil, List.getElem?_toArray, List.getElem?_cons_succ, List.getElem?_cons_zero, Option.getD_some]
   haveI := cv_some w4
   have x0 : ∀ u : Cv w4, u.x.cell? ⟨B6, 0, none⟩ = some (.bool false) := fun u => (HP64.out.below u.h).at 0 _ rfl
   have x1 : ∀ u : Cv w4, u.x.cell? ⟨B6, 1, none⟩ = some (.string (mg c0)) := fun u => (HP64.out.below u.h).at 1 _ rfl
   iterate 4 (go_big_quiet_step (fail))
   refine wpQuiet_nil ?_
   clear this x0 x1
   refine wpMix_r ?_
   simp only [pickO, List.map_cons, List.map_nil, List.getElem?_toArray, List.getElem?_cons_succ, List.getElem?_cons_zero, Option.getD_some]
   go_wp2_with fail
   refine (HCI.out _ _ (HS.out.below HB4.out) (HG8b.out.row (lenH_len _ _).symm)).mono ?_
   rintro e w5 ⟨rfl, hb5⟩
   have HB5 := Lib.hid (bstep HB4.out hb5)
   unfold VN
   go_wp2_with fail
   refine mixQ_ok hb5 ?_
   clear hb5
   refine wpMix_q ?_
   simp only [pickO, List.map_cons, List.map_nil, List.getElem?_toArray, List.getElem?_cons_succ, List.getElem?_cons_zero, Option.getD_some]
   haveI := cv_some w5
   have hiq := HIQ.out
   obtain ⟨eq2, heq2⟩ : ∃ b, decide (c0 = c1) = b := ⟨_, rfl⟩
   rw [heq2] at hiq HO
   clear heq2
   iterate 4 (go_big_quiet_step (fail))
   refine wpQuiet_nil ?_
   clear this hiq
   refine wpMix_nil ?_
   simp only [pickO, List.map_cons, List.map_nil, List.getElem?_toArray, List.getElem?_cons_succ, List.getElem?_cons_zero, Option.getD_some]
   go_wp2
   go_ret2
   exact ⟨by rw [HO.out, HE.out, Bool.true_and]; rfl, HB5.out⟩
end Go.Proofs.Gv
