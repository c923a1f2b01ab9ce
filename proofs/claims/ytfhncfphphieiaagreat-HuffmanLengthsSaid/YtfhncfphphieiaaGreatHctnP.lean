import Derived.Test.YtfhncfphphieiaaGreatHcosP
set_option maxHeartbeats 4000000
set_option maxRecDepth 100000
set_option linter.unusedSimpArgs false
set_option linter.unusedVariables false
namespace Go.Proofs.Gv
open Go Go.RowKit Go.Maps
def prods (Ws ds : List Nat) : List Nat := (Ws.zip ds).map fun x => x.1 * x.2
def csum (Ws ds : List Nat) : Nat := (prods Ws ds).sum
theorem prods_at {Ws ds : List Nat} {i x d : Nat} (h1 : Ws[i]? = some x) (h2 : ds[i]? = some d) : (prods Ws ds)[i]? = some (x * d) := by
 unfold prods
 rw [List.getElem?_map, (List.getElem?_zip_eq_some (z := (x, d))).2 ⟨h1, h2⟩]
 rfl
theorem prods_len {Ws ds : List Nat} (h : ds.length = Ws.length) : (prods Ws ds).length = Ws.length := by unfold prods; rw [List.length_map, List.length_zip, h, Nat.min_self]
theorem take_sum_succ {P : List Nat} {i x : Nat} (h : P[i]? = some x) : (P.take (i + 1)).sum = (P.take i).sum + x := by
 rw [List.take_add_one, h, List.sum_append]; simp
theorem take_sum_le : ∀ (P : List Nat) (i : Nat), (P.take i).sum ≤ P.sum
 | [], i => by simp
 | x :: P, 0 => by simp
 | x :: P, i + 1 => by
   have := take_sum_le P i
   simp only [List.take_succ_cons, List.sum_cons]
   omega
theorem csum_lt {N : Nat} {Ws ds : List Nat} (hl : ds.length = Ws.length) (h1 : ∀ z ∈ Ws, z < 2 ^ N) (h2 : ∀ d ∈ ds, d < 2 ^ 62) (h3 : Ws.length ≤ 1000) : csum Ws ds < 2 ^ (N + 62 + 10) := by
 refine sum_lt (fun z hz => ?_) (by rw [prods_len hl]; exact h3)
 obtain ⟨⟨a, b⟩, hm, rfl⟩ := List.mem_map.1 hz
 have ha := h1 a (List.of_mem_zip hm).1
 have hb := h2 b (List.of_mem_zip hm).2
 rw [Nat.pow_add]
 exact Nat.mul_lt_mul'' ha hb
theorem cost_any (a : Option Addr) (cap N : Nat) (Ws ds : List Nat) (v : Value) (hl : ds.length = Ws.length) (h3 : Ws.length ≤ 1000) (h1 : ∀ z ∈ Ws, z < 2 ^ N) (h2 : ∀ d ∈ ds, d < 2 ^ 62) (hN : N ≤ 1000000) (w : World) (hSl : Sl w a (VL Ws)) (hv : RowAt w v (natV ds)) :
  Calls Tryz.prog 34 #[.slice a Ws.length cap, v] w fun e w' => e = .returned (VN (csum Ws ds)) ∧ Below w.heap.size w w' := by
 obtain ⟨ad, c, rfl, hat⟩ := hv
 rw [natV_len, hl]
 have HP := Lib.hid (prods_len hl)
 have HCB := Lib.hid (csum_lt hl h1 h2 h3)
 have HAT := Lib.hid hat
 have HSL := Lib.hid hSl
 have HL := Lib.hid hl
 have HW1 := Lib.hid h1
 have HD2 := Lib.hid h2
 have HP4 := Lib.hid ((BC.new w w.heap.size #[.bool false, .string ⟨#[]⟩] 36 rfl).alloc (.cells #[.bool false, .string ⟨#[]⟩] 36))
 have HP5 := Lib.hid (BC.new (w.alloc (.cells #[.bool false, .string ⟨#[]⟩] 36)) (w.heap.size + 1) #[.bool false, .string ⟨#[]⟩] 36 (by simp))
 have HB := Lib.hid (((Below.refl w.heap.size w).alloc (Nat.le_refl _) (.cells #[.bool false, .string ⟨#[]⟩] 36)).alloc (by simp) (.cells #[.bool false, .string ⟨#[]⟩] 36))
 clear hat hSl hl h1 h2
 go_enter Tryz.func34, Tryz.ntmps34
 go_wp2
 obtain ⟨W0, hW0⟩ : ∃ W, (w.alloc (.cells #[.bool false, .string ⟨#[]⟩] 36)).alloc (.cells #[.bool false, .string ⟨#[]⟩] 36) = W := ⟨_, rfl⟩
 rw [hW0] at HP4 HP5 HB ⊢
 clear hW0
 obtain ⟨B4, hB4⟩ : ∃ B, w.heap.size = B := ⟨_, rfl⟩
 have hx : (w.heap.size + 1) = B4 + 1 := by rw [hB4]
 rw [hB4] at HP4 HP5 HB ⊢
 have HB4 := Lib.hid hB4
 clear hB4 hx
 go_loopg [10] (Ws.length + 1) (fun gg v10 wr => ∃ i : Nat, v10 = .int .i64 (i : Int) ∧ i ≤ Ws.length ∧ Ws.length - i < gg ∧ BC wr B4 [.bool false, .string ⟨#[]⟩] ∧ BC wr (B4 + 1) [.bool false, .string (mg ((prods Ws ds).take i).sum)] ∧ Below B4 w wr)
 case atStart => exact ⟨0, rfl, Nat.zero_le _, by omega, HP4.out, by rw [List.take_zero, show ([] : List Nat).sum = 0 from rfl, mg_zero]; exact HP5.out, HB.out⟩
 case round =>
  obtain ⟨i, rfl, hi, hig, h4, h5, hb⟩ := hrel
  clear HP4 HP5 HB
  have HP4 := Lib.hid h4
  have HP5 := Lib.hid h5
  have HB := Lib.hid hb
  have HG := Lib.hid hig
  clear h4 h5 hb hig
  by_cases hlt : i < Ws.length
  ·have hltI : (i : Int) < Ws.length := by omega
   obtain ⟨x, hx⟩ : ∃ x, Ws[i]? = some x := ⟨Ws[i], List.getElem?_eq_getElem hlt⟩
   obtain ⟨d, hd⟩ : ∃ d, ds[i]? = some d := ⟨ds[i]'(by rw [HL.out]; exact hlt), List.getElem?_eq_getElem _⟩
   have HBW := Lib.hid (show Below w.heap.size w wr by rw [HB4.out]; exact HB.out)
   obtain ⟨A, rfl, c0, c1⟩ := (HSL.out.below HBW.out) i false (mg x) (by unfold VL; rw [List.getElem?_map, hx]; rfl)
   have c2 : wr.cell? ⟨(A.add (i * 2)).block, (A.add (i * 2)).off + 1, none⟩ = some (.string (mg x)) := by rw [addr_next]; exact c1
   obtain ⟨g, rfl, hcd⟩ := HAT.out i _ (by unfold natV; rw [List.getElem?_map, hd]; rfl)
   have hgl := World.block_lt_of_cell? w _ hcd
   have c3 := (HBW.out.cell (p := ⟨g, i, none⟩) hgl).trans hcd
   have HX := Lib.hid (take_sum_succ (prods_at hx hd))
   have hxs := HW1.out x (List.mem_of_getElem? hx)
   have hds := HD2.out d (List.mem_of_getElem? hd)
   have hpt := take_sum_le (prods Ws ds) i
   have hps : x * d < 2 ^ (N + 62) := by rw [Nat.pow_add]; exact Nat.mul_lt_mul'' hxs hds
   have HOF := Lib.hid (fun W => show Calls Tryz.prog 20 #[.int .i64 (d : Int)] W fun e w' => e = .returned (.agg #[.bool false, .string (mg d)]) ∧ Below W.heap.size W w' from by
    have := cOf (d : Int) (by omega) (by omega) W
    rwa [Int.natAbs_natCast, show sgn (d : Int) = false from decide_eq_false (by omega)] at this)
   have HMU := Lib.hid (fun W => show Calls Tryz.prog 68 #[.agg #[.bool false, .string (mg x)], .agg #[.bool false, .string (mg d)]] W fun e w' => e = .returned (.agg #[.bool false, .string (mg (x * d))]) ∧ Below W.heap.size W w' from by
    have := cMul (VN_rp (N := N) hxs (by omega)) (VN_rp (N := 62) hds (by omega)) W
    rwa [show (x : Int) * (d : Int) = ((x * d : Nat) : Int) by simp, Int.natAbs_natCast, show sgn ((x * d : Nat) : Int) = false from decide_eq_false (by omega)] at this)
   have HAD := Lib.hid (fun W => show Calls Tryz.prog 66 #[.agg #[.bool false, .string (mg ((prods Ws ds).take i).sum)], .agg #[.bool false, .string (mg (x * d))]] W fun e w' => e = .returned (.agg #[.bool false, .string (mg (((prods Ws ds).take i).sum + x * d))]) ∧ Below W.heap.size W w' from by
    have := cAdd (VN_rp (z := ((prods Ws ds).take i).sum) (N := N + 62 + 10) (Nat.lt_of_le_of_lt hpt HCB.out) (by omega)) (VN_rp (N := N + 62) hps (by omega)) W
    rwa [show ((((prods Ws ds).take i).sum : Nat) : Int) + ((x * d : Nat) : Int) = ((((prods Ws ds).take i).sum + x * d : Nat) : Int) by simp, Int.natAbs_natCast, show sgn ((((prods Ws ds).take i).sum + x * d : Nat) : Int) = false from decide_eq_false (by omega)] at this)
   obtain ⟨S, hS⟩ : ∃ S, ((prods Ws ds).take i).sum = S := ⟨_, rfl⟩
   obtain ⟨xd, hxd⟩ : ∃ y, x * d = y := ⟨_, rfl⟩
   rw [hS] at HX HAD HP5
   rw [hxd] at HX HAD HMU
   have HA4 := Lib.hid (HP4.out.alloc (.cells #[.bool false, .string (mg x)] 36))
   have HA5 := Lib.hid (HP5.out.alloc (.cells #[.bool false, .string (mg x)] 36))
   have HA7 := Lib.hid (BC.new wr wr.heap.size #[.bool false, .string (mg x)] 36 rfl)
   have HAB := Lib.hid (HB.out.alloc (by have := HB.out.size; have := HB4.out; omega) (.cells #[.bool false, .string (mg x)] 36))
   have HC3 := Lib.hid (((Below.refl wr.heap.size wr).alloc (Nat.le_refl _) (.cells #[.bool false, .string (mg x)] 36)).cell (p := ⟨g, i, none⟩) (World.block_lt_of_cell? wr _ c3))
   have c4 := HC3.out.trans c3
   clear hxs hds hpt hps hS hxd hx hd hcd hgl HC3
   go_wp2_with fail
   obtain ⟨W, hW⟩ : ∃ W, wr.alloc (.cells #[.bool false, .string (mg x)] 36) = W := ⟨_, rfl⟩
   rw [hW] at HA4 HA5 HA7 HAB c4 ⊢
   clear hW
   refine wp_region_front 9 zvI (by kernel_rfl) shI (by kernel_rfl) (by kernel_rfl) (zvI_alloc _ (by kernel_rfl)) (shI_store _ (by kernel_rfl)) ?_
   intro mm BW hm1 hm2 hBW
   haveI := clm_some mm BW
   have fq0 := fun u : Clm mm BW => u.cell hm1 hBW (HA5.out.at 0 _ rfl)
   have fr0 := fun u : Clm mm BW => u.cell hm1 hBW (HA5.out.at 1 _ rfl)
   have fq1 := fun u : Clm mm BW => u.cell hm1 hBW (HA7.out.at 0 _ rfl)
   have fr1 := fun u : Clm mm BW => u.cell hm1 hBW (HA7.out.at 1 _ rfl)
   have fs1 := fun u : Clm mm BW => u.cell hm1 hBW c4
   simp only [frontOf, unmade, List.take_succ_cons, List.take_zero, List.map_cons, List.map_nil]
   iterate 6 (go_big_quiet_step (fail))
   go_big_quiet_step ((go_at_call 20; exact quiet_clm hm2 HOF.out _))
   go_big_quiet_step ((go_at_call 68; exact quiet_clm hm2 HMU.out _))
   go_big_quiet_step ((go_at_call 66; exact quiet_clm hm2 HAD.out _))
   refine wpQuiet_nil ?_
   refine ⟨List.forall_mem_nil _, ?_⟩
   intro γ w9 hB9 hF
   clear hF hBW this hm1 hm2 fq0 fr0 fq1 fr1 fs1
   clear BW mm
   simp only [madesFrom, Facts, patch, List.take_succ_cons, List.take_zero, List.drop_succ_cons, List.drop_zero]
   clear γ
   have HQ4 := Lib.hid (HA4.out.below hB9)
   have HQ5 := Lib.hid (HA5.out.below hB9)
   have HQB := Lib.hid (HAB.out.grown (Below.grows hB9) (by rw [← HB4.out]; exact HAB.out.size) (fun k e => by cases e))
   clear hB9 HA4 HA5 HA7 HAB c4 HP4 HP5 HB HOF HMU HAD
   have x0 := HQ5.out.at 0 _ rfl
   have x1 := HQ5.out.at 1 _ rfl
   have z0 := HQ5.out.z 0 (by simp)
   have z1 := HQ5.out.z 1 (by simp)
   go_wp2_with fail
   go_roundg (Ws.length - i)
   case rel =>
    refine ⟨i + 1, by go_num, by omega, by omega, (HQ4.out.other 0 _ (by simp)).other 1 _ (by simp), ?_, (HQB.out.setCell (p := ⟨_, 0, none⟩) (by simp) _).setCell (p := ⟨_, 1, none⟩) (by simp) _⟩
    rw [HX.out]
    exact HQ5.out.set2 0 1 _ _ (by simp) (by simp)
   case measure => have := HG.out; omega
  ·obtain rfl : i = Ws.length := by omega
   have hB : decide ((Ws.length : Int) < Ws.length) = false := by simp
   have x0 := HP5.out.at 0 _ rfl
   have x1 := HP5.out.at 1 _ rfl
   have y0 := HP4.out.at 0 _ rfl
   have y1 := HP4.out.at 1 _ rfl
   have z0 := HP4.out.z 0 (by simp)
   have z1 := HP4.out.z 1 (by simp)
   have HS := Lib.hid (show ((prods Ws ds).take Ws.length).sum = csum Ws ds from by rw [List.take_of_length_le (by rw [HP.out]; exact Nat.le_refl _)]; rfl)
   have HF := Lib.hid (HP4.out.set2 0 1 (.bool false) (.string (mg ((prods Ws ds).take Ws.length).sum)) (by simp) (by simp))
   go_wp2
   have p0 := HF.out.at 0 _ rfl
   have p1 := HF.out.at 1 _ rfl
   refine bodyPost_ret (v := .agg #[.bool false, .string (mg ((prods Ws ds).take Ws.length).sum)]) (by simp [results, Tryz.results34, go_sem, p0, p1]) rfl ⟨?_, ?_⟩
   ·rw [HS.out]; rfl
   ·rw [HB4.out]
    exact (HB.out.setCell (p := ⟨_, 0, none⟩) (Nat.le_refl _) _).setCell (p := ⟨_, 1, none⟩) (Nat.le_refl _) _
end Go.Proofs.Gv
namespace Go.Proofs.Gv
open Go Go.RowKit Go.Maps
theorem RowAt.below {W W' : World} {v : Value} {L : List Value} (h : RowAt W v L) (hb : Below W.heap.size W W') : RowAt W' v L := by
 obtain ⟨a, c, rfl, hat⟩ := h
 refine ⟨a, c, rfl, fun i x hi => ?_⟩
 obtain ⟨g, rfl, hc⟩ := hat i x hi
 exact ⟨g, rfl, (hb.cell (p := ⟨g, i, none⟩) (World.block_lt_of_cell? W _ hc)).trans hc⟩
def badL (k : Int) : Bool := decide (k < 1) || decide (64 < k)
def intsV (l : List Int) : List Value := l.map fun k => .int .i64 k
theorem intsV_len (l : List Int) : (intsV l).length = l.length := by unfold intsV; simp
theorem badL_any (k : Int) (w : World) : Calls Tryz.prog 33 #[.int .i64 k] w fun e w' => e = .returned (.bool (badL k)) ∧ w' = w := by
 unfold badL
 by_cases h1 : k < 1
 ·rw [decide_eq_true h1]
  go_enter Tryz.func33, Tryz.ntmps33
  go_wp2
  go_ret
  exact ⟨rfl, rfl⟩
 ·rw [decide_eq_false h1, Bool.false_or]
  by_cases h2 : 64 < k
  ·rw [decide_eq_true h2]
   go_enter Tryz.func33, Tryz.ntmps33
   go_wp2
   go_ret
   exact ⟨rfl, rfl⟩
  ·rw [decide_eq_false h2]
   go_enter Tryz.func33, Tryz.ntmps33
   go_wp2
   go_ret
   exact ⟨rfl, rfl⟩
theorem idx_any (v : Value) (xs : List Int) (hx : xs.length ≤ maxLen) (w : World) (hv : RowAt w v (intsV xs)) :
  Calls Tryz.prog 67 #[v, .func (.func 33) #[] #[]] w fun e w' => ∃ r : Int, e = .returned (.int .i64 r) ∧ decide (0 ≤ r) = xs.any badL ∧ w' = w := by
 obtain ⟨a, c, rfl, hat⟩ := hv
 rw [intsV_len]
 unfold maxLen at hx
 have HAT := Lib.hid hat
 clear hat
 go_enter Tryz.func67, Tryz.ntmps67
 go_wp2
 go_loopg [8] (xs.length + 1) (fun gg v8 wr => ∃ i : Nat, v8 = .int .i64 (i : Int) ∧ i ≤ xs.length ∧ xs.length - i < gg ∧ (xs.take i).any badL = false ∧ wr = w)
 case atStart => exact ⟨0, rfl, Nat.zero_le _, by omega, rfl, rfl⟩
 case round =>
  obtain ⟨i, rfl, hi, hig, hno, ew⟩ := hrel
  subst ew
  have HG := Lib.hid hig
  have HNO := Lib.hid hno
  clear hig hno
  by_cases hlt : i < xs.length
  ·have hltI : (i : Int) < xs.length := by omega
   obtain ⟨x, hx2⟩ : ∃ x, xs[i]? = some x := ⟨xs[i], List.getElem?_eq_getElem hlt⟩
   obtain ⟨g, rfl, c0⟩ := HAT.out i _ (by unfold intsV; rw [List.getElem?_map, hx2]; rfl)
   have HX2 := Lib.hid hx2
   have HCB := Lib.hid (fun W => badL_any x W)
   clear hx2
   cases hb : badL x with
   | true =>
     rw [hb] at HCB
     have HBB := Lib.hid hb
     clear hb
     go_wp2_with fail
     refine (HCB.out _).mono ?_
     rintro e w1 ⟨rfl, ew⟩
     subst ew
     go_wp2
     go_ret
     refine ⟨_, rfl, ?_, rfl⟩
     have : xs.any badL = true := List.any_eq_true.2 ⟨x, List.mem_of_getElem? HX2.out, HBB.out⟩
     rw [this]
     simp
   | false =>
     rw [hb] at HCB
     have HBB := Lib.hid hb
     clear hb
     go_wp2_with fail
     refine (HCB.out _).mono ?_
     rintro e w1 ⟨rfl, ew⟩
     subst ew
     go_wp2
     go_roundg (xs.length - i)
     case rel =>
      refine ⟨i + 1, by go_num, by omega, by omega, ?_, rfl⟩
      rw [List.take_add_one, HX2.out, List.any_append, HNO.out]
      simp [HBB.out]
     case measure => have := HG.out; omega
  ·obtain rfl : i = xs.length := by omega
   have hB : decide ((xs.length : Int) < xs.length) = false := by simp
   go_wp2
   go_ret
   refine ⟨-1, rfl, ?_, rfl⟩
   have := HNO.out
   rw [List.take_length] at this
   rw [this]
   rfl
theorem contains_any (v : Value) (xs : List Int) (hx : xs.length ≤ maxLen) (w : World) (hv : RowAt w v (intsV xs)) :
  Calls Tryz.prog 32 #[v, .func (.func 33) #[] #[]] w fun e w' => e = .returned (.bool (xs.any badL)) ∧ w' = w := by
 have HI := Lib.hid (idx_any v xs hx w hv)
 clear hv
 go_enter Tryz.func32, Tryz.ntmps32
 go_wp2_with fail
 refine HI.out.mono ?_
 rintro e w1 ⟨r, rfl, hr, ew⟩
 subst ew
 have HR := Lib.hid hr
 clear hr
 go_wp2
 go_ret
 exact ⟨by rw [← HR.out]; rfl, rfl⟩
noncomputable def costE (L : List (Bool × ByteArray)) (xs : List Int) : Int := if chkW L ≠ 0 then chkW L else if xs.length ≠ L.length then 11 else if xs.any badL = true then 2 else 0
theorem not_bad {xs : List Int} (h : xs.any badL = false) : ∃ ds : List Nat, xs = ds.map (fun (k : Nat) => (k : Int)) ∧ ∀ d ∈ ds, 1 ≤ d ∧ d ≤ 64 := by
 refine ⟨xs.map Int.toNat, ?_, fun d hd => ?_⟩
 ·rw [List.map_map]
  refine (List.map_id xs).symm.trans (List.map_congr_left fun x hx => ?_)
  have := List.any_eq_false.1 h x hx
  unfold badL at this
  simp at this
  simp
  omega
 ·obtain ⟨x, hx, rfl⟩ := List.mem_map.1 hd
  have := List.any_eq_false.1 h x hx
  unfold badL at this
  simp at this
  omega
theorem intsV_nat (ds : List Nat) : intsV (ds.map fun (k : Nat) => (k : Int)) = natV ds := by unfold intsV natV; rw [List.map_map]; rfl
theorem Cost_any (cap : Nat) (a : Option Addr) (L : List (Bool × ByteArray)) (v : Value) (xs : List Int) (hL : L.length ≤ maxLen) (hx : xs.length ≤ maxLen) (hz : ∀ x ∈ L, x.2.size ≤ 100000) (w : World) (hSl : Sl w a L) (hv : RowAt w v (intsV xs)) :
  Calls Tryz.prog 12 #[.slice a L.length cap, v] w fun e w' => (∃ z : Nat, e = .returned (.tuple #[VN z, .int .i64 (costE L xs)]) ∧ (costE L xs ≠ 0 → z = 0) ∧ (costE L xs = 0 → ∃ (Ws ds : List Nat), L = VL Ws ∧ xs = ds.map (fun (k : Nat) => (k : Int)) ∧ ds.length = Ws.length ∧ 2 ≤ Ws.length ∧ Ws.length ≤ 64 ∧ (∀ d ∈ ds, 1 ≤ d ∧ d ≤ 64) ∧ z = csum Ws ds)) ∧ Below w.heap.size w w' := by
 have HCK := Lib.hid (fun w1 (hb1 : Below w.heap.size w w1) => checkW_any a cap L w1 hL (fun x hx => Nat.le_trans (hz x hx) (by decide)) (hSl.below hb1))
 by_cases h0 : chkW L = 0
 ·rw [h0] at HCK
  have HC2 := Lib.hid (HCK.out (w.alloc (.cells #[.bool false, .string ⟨#[]⟩] 36)) ((Below.refl _ w).alloc (Nat.le_refl _) _))
  have HP4 := Lib.hid (BC.new w w.heap.size #[.bool false, .string ⟨#[]⟩] 36 rfl)
  have HB0 := Lib.hid ((Below.refl w.heap.size w).alloc (Nat.le_refl _) (.cells #[.bool false, .string ⟨#[]⟩] 36))
  have HSL := Lib.hid hSl
  have HV := Lib.hid hv
  obtain ⟨g1, g2, Ws, hWs⟩ := chkW_ok h0
  have HZ := Lib.hid hz
  have HWS := Lib.hid hWs
  obtain ⟨ad, c, rfl, hat⟩ := hv
  rw [intsV_len] at HV ⊢
  clear hSl hz HCK hat hWs
  by_cases hl : xs.length = L.length
  ·have hlB : (xs.length != L.length) = false := by simp [hl]
   cases hbd : xs.any badL with
   | true =>
     have hE : costE L xs = 2 := by unfold costE; rw [if_neg (by simp [h0]), if_neg (by simp [hl]), if_pos hbd]
     rw [hE]
     have HCT := Lib.hid (fun w1 (hb : Below w.heap.size w w1) => contains_any (.slice ad xs.length c) xs hx w1 (HV.out.below hb))
     rw [hbd] at HCT
     clear hE hbd
     go_enter Tryz.func12, Tryz.ntmps12
     go_wp2_with fail
     refine HC2.out.mono ?_
     rintro e w1 ⟨rfl, hb1⟩
     have HP5 := Lib.hid (HP4.out.below hb1)
     have HB1 := Lib.hid (HB0.out.grown (Below.grows hb1) HB0.out.size (fun k e => by cases e))
     have HC3 := Lib.hid (HCT.out w1 HB1.out)
     rw [hl] at HC3
     have x0 := HP5.out.at 0 _ rfl
     have x1 := HP5.out.at 1 _ rfl
     have z0 := HP5.out.z 0 (by simp)
     have z1 := HP5.out.z 1 (by simp)
     have HF := Lib.hid (HP5.out.set2 0 1 (.bool false) (.string ⟨#[]⟩) (by simp) (by simp))
     clear hb1
     clear HCT
     go_wp2_with fail
     refine HC3.out.mono ?_
     rintro e w2 ⟨rfl, ew⟩
     subst ew
     go_wp2
     have p0 := HF.out.at 0 _ rfl
     have p1 := HF.out.at 1 _ rfl
     refine bodyPost_ret (v := .tuple #[.agg #[.bool false, .string ⟨#[]⟩], .int .i64 2]) (by simp [results, Tryz.results12, go_sem, p0, p1]) rfl ⟨⟨0, ?_, fun _ => rfl, fun h => absurd h (by decide)⟩, ?_⟩
     ·unfold VN; rw [mg_zero]
     ·exact (HB1.out.setCell (p := ⟨_, 0, none⟩) (Nat.le_refl _) _).setCell (p := ⟨_, 1, none⟩) (Nat.le_refl _) _
   | false =>
     obtain ⟨ds, hds, hd⟩ := not_bad hbd
     have hE : costE L xs = 0 := by unfold costE; rw [if_neg (by simp [h0]), if_neg (by simp [hl]), if_neg (by simp [hbd])]
     rw [hE]
     have HCT := Lib.hid (fun w1 (hb : Below w.heap.size w w1) => contains_any (.slice ad xs.length c) xs hx w1 (HV.out.below hb))
     rw [hbd] at HCT
     have hLl : L.length = Ws.length := by rw [HWS.out, List.length_map]
     have hdl : ds.length = Ws.length := by rw [← hLl, ← hl, hds, List.length_map]
     obtain ⟨N, hN⟩ : ∃ N, 800000 = N := ⟨_, rfl⟩
     have HCO := Lib.hid (fun w1 (hb : Below w.heap.size w w1) => cost_any a cap N Ws ds (.slice ad xs.length c) hdl (by omega) (fun z hm => mg_lt (HZ.out (false, mg z) (by rw [HWS.out]; exact List.mem_map.2 ⟨z, hm, rfl⟩)) (by omega)) (fun d hm => by have := hd d hm; omega) (by omega) w1 (by rw [show VL Ws = L from HWS.out.symm]; exact HSL.out.below hb) (by rw [← intsV_nat, ← hds]; exact HV.out.below hb))
     rw [← hLl] at HCO
     have HFF := Lib.hid (show L = VL Ws ∧ xs = ds.map (fun (k : Nat) => (k : Int)) ∧ ds.length = Ws.length ∧ (∀ d ∈ ds, 1 ≤ d ∧ d ≤ 64) ∧ 2 ≤ Ws.length ∧ Ws.length ≤ 64 from ⟨HWS.out, hds, hdl, hd, by rw [← hLl]; exact g1, by rw [← hLl]; exact g2⟩)
     clear hE hbd hds hd hdl hN hLl
     go_enter Tryz.func12, Tryz.ntmps12
     go_wp2_with fail
     refine HC2.out.mono ?_
     rintro e w1 ⟨rfl, hb1⟩
     have HP5 := Lib.hid (HP4.out.below hb1)
     have HB1 := Lib.hid (HB0.out.grown (Below.grows hb1) HB0.out.size (fun k e => by cases e))
     have HC3 := Lib.hid (HCT.out w1 HB1.out)
     rw [hl] at HC3
     have HC4 := Lib.hid (HCO.out w1 HB1.out)
     rw [hl] at HC4
     clear hb1 HCT HCO
     go_wp2_with fail
     refine HC3.out.mono ?_
     rintro e w2 ⟨rfl, ew⟩
     subst ew
     go_wp2_with fail
     refine HC4.out.mono ?_
     rintro e w3 ⟨rfl, hb3⟩
     have HP6 := Lib.hid (HP5.out.below hb3)
     have HB3 := Lib.hid (HB1.out.grown (Below.grows hb3) HB1.out.size (fun k e => by cases e))
     have x0 := HP6.out.at 0 _ rfl
     have x1 := HP6.out.at 1 _ rfl
     have z0 := HP6.out.z 0 (by simp)
     have z1 := HP6.out.z 1 (by simp)
     have HF := Lib.hid (HP6.out.set2 0 1 (.bool false) (.string (mg (csum Ws ds))) (by simp) (by simp))
     clear hb3
     unfold VN
     go_wp2
     have p0 := HF.out.at 0 _ rfl
     have p1 := HF.out.at 1 _ rfl
     refine bodyPost_ret (v := .tuple #[.agg #[.bool false, .string (mg (csum Ws ds))], .int .i64 0]) (by simp [results, Tryz.results12, go_sem, p0, p1]) rfl ⟨⟨csum Ws ds, rfl, fun h => absurd rfl h, fun _ => ⟨Ws, ds, HFF.out.1, HFF.out.2.1, HFF.out.2.2.1, HFF.out.2.2.2.2.1, HFF.out.2.2.2.2.2, HFF.out.2.2.2.1, rfl⟩⟩, ?_⟩
     exact (HB3.out.setCell (p := ⟨_, 0, none⟩) (Nat.le_refl _) _).setCell (p := ⟨_, 1, none⟩) (Nat.le_refl _) _
  ·have hlB : ((xs.length : Int) != L.length) = true := by simp; omega
   have hlB2 : ((xs.length : Int) == L.length) = false := by simp; omega
   have hlN : ¬ (xs.length : Int) = L.length := by omega
   have hE : costE L xs = 11 := by unfold costE; rw [if_neg (by simp [h0]), if_pos hl]
   rw [hE]
   clear hE
   go_enter Tryz.func12, Tryz.ntmps12
   go_wp2_with fail
   refine HC2.out.mono ?_
   rintro e w1 ⟨rfl, hb1⟩
   have HP5 := Lib.hid (HP4.out.below hb1)
   have HB1 := Lib.hid (HB0.out.grown (Below.grows hb1) HB0.out.size (fun k e => by cases e))
   have x0 := HP5.out.at 0 _ rfl
   have x1 := HP5.out.at 1 _ rfl
   have z0 := HP5.out.z 0 (by simp)
   have z1 := HP5.out.z 1 (by simp)
   have HF := Lib.hid (HP5.out.set2 0 1 (.bool false) (.string ⟨#[]⟩) (by simp) (by simp))
   clear hb1
   go_wp2
   have p0 := HF.out.at 0 _ rfl
   have p1 := HF.out.at 1 _ rfl
   refine bodyPost_ret (v := .tuple #[.agg #[.bool false, .string ⟨#[]⟩], .int .i64 11]) (by simp [results, Tryz.results12, go_sem, p0, p1]) rfl ⟨⟨0, ?_, fun _ => rfl, fun h => absurd h (by decide)⟩, ?_⟩
   ·unfold VN; rw [mg_zero]
   ·exact (HB1.out.setCell (p := ⟨_, 0, none⟩) (Nat.le_refl _) _).setCell (p := ⟨_, 1, none⟩) (Nat.le_refl _) _
 ·have hE : costE L xs = chkW L := by unfold costE; rw [if_pos h0]
  rw [hE]
  have hcB : (chkW L != 0) = true := by simp [h0]
  have HH := Lib.hid h0
  obtain ⟨cc, hcc⟩ : ∃ c, chkW L = c := ⟨_, rfl⟩
  rw [hcc] at HCK hcB HH h0 ⊢
  have HC2 := Lib.hid (HCK.out (w.alloc (.cells #[.bool false, .string ⟨#[]⟩] 36)) ((Below.refl _ w).alloc (Nat.le_refl _) _))
  have HP4 := Lib.hid (BC.new w w.heap.size #[.bool false, .string ⟨#[]⟩] 36 rfl)
  have HB0 := Lib.hid ((Below.refl w.heap.size w).alloc (Nat.le_refl _) (.cells #[.bool false, .string ⟨#[]⟩] 36))
  clear hSl hz hE hcc HCK hv
  go_enter Tryz.func12, Tryz.ntmps12
  go_wp2_with fail
  refine HC2.out.mono ?_
  rintro e w1 ⟨rfl, hb1⟩
  have HP5 := Lib.hid (HP4.out.below hb1)
  have HB1 := Lib.hid (HB0.out.grown (Below.grows hb1) HB0.out.size (fun k e => by cases e))
  have x0 := HP5.out.at 0 _ rfl
  have x1 := HP5.out.at 1 _ rfl
  have z0 := HP5.out.z 0 (by simp)
  have z1 := HP5.out.z 1 (by simp)
  have HF := Lib.hid (HP5.out.set2 0 1 (.bool false) (.string ⟨#[]⟩) (by simp) (by simp))
  clear hb1
  go_wp2
  have p0 := HF.out.at 0 _ rfl
  have p1 := HF.out.at 1 _ rfl
  refine bodyPost_ret (v := .tuple #[.agg #[.bool false, .string ⟨#[]⟩], .int .i64 cc]) (by simp [results, Tryz.results12, go_sem, p0, p1]) rfl ⟨⟨0, ?_, fun _ => rfl, fun h => absurd h HH.out⟩, ?_⟩
  ·unfold VN; rw [mg_zero]
  ·exact (HB1.out.setCell (p := ⟨_, 0, none⟩) (Nat.le_refl _) _).setCell (p := ⟨_, 1, none⟩) (Nat.le_refl _) _
end Go.Proofs.Gv
