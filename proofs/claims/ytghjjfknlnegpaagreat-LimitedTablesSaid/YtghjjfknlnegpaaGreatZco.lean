/- grooveref38: cost, checkLengths, Cost with lengths at any address (printed by mk_zco.py). -/
import Derived.Test.YtghjjfknlnegpaaGreatMorP
set_option linter.unusedSimpArgs false
set_option linter.unusedVariables false
namespace Go.Proofs.Gv
open Go Go.RowKit Go.Maps

/-- A slice of one-cell values at any address. -/
def RowO (W : World) (v : Value) (L : List Value) : Prop := ∃ (a : Option Addr) (c : Nat), v = .slice a L.length c ∧ ∀ (i : Nat) (x : Value), L[i]? = some x → ∃ g, a = some g ∧ W.cell? (g.add i) = some x
theorem RowO.below {W W' : World} {v : Value} {L : List Value} (h : RowO W v L) (hb : Below W.heap.size W W') : RowO W' v L := by
  obtain ⟨a, c, rfl, hat⟩ := h
  refine ⟨a, c, rfl, fun i x hi => ?_⟩
  obtain ⟨g, rfl, hc⟩ := hat i x hi
  exact ⟨g, rfl, (hb.cell (World.block_lt_of_cell? W _ hc)).trans hc⟩
set_option maxRecDepth 100000 in
set_option maxHeartbeats 4000000 in
theorem rcost38O_any (a : Option Addr) (cap N : Nat) (Ws ds : List Nat) (v : Value) (hl : ds.length = Ws.length) (h3 : Ws.length ≤ 1000) (h1 : ∀ z ∈ Ws, z < 2 ^ N) (h2 : ∀ d ∈ ds, d < 2 ^ 62) (hN : N ≤ 10000) (w : World) (hSl : Sl w a (VL Ws)) (hv : RowO w v (natV ds)) :
    Calls Tryz.prog 60 #[.slice a Ws.length cap, v] w fun e w' => e = .returned (VN (csum Ws ds)) ∧ Below w.heap.size w w' := by
  obtain ⟨ad, c, rfl, hat⟩ := hv
  rw [natV_len, hl]
  have HP := Lib.hid (prods_len hl)
  have HCB := Lib.hid (csum_lt hl h1 h2 h3)
  have HAT := Lib.hid hat
  have HSL := Lib.hid hSl
  have HL := Lib.hid hl
  have HW1 := Lib.hid h1
  have HD2 := Lib.hid h2
  have HP4 := Lib.hid ((BC.new w w.heap.size #[.bool false, .string ⟨#[]⟩] 29 rfl).alloc (.cells #[.bool false, .string ⟨#[]⟩] 29))
  have HP5 := Lib.hid (BC.new (w.alloc (.cells #[.bool false, .string ⟨#[]⟩] 29)) (w.heap.size + 1) #[.bool false, .string ⟨#[]⟩] 29 (by simp))
  have HB := Lib.hid (((Below.refl w.heap.size w).alloc (Nat.le_refl _) (.cells #[.bool false, .string ⟨#[]⟩] 29)).alloc (by simp) (.cells #[.bool false, .string ⟨#[]⟩] 29))
  clear hat hSl hl h1 h2
  go_enter Tryz.func60, Tryz.ntmps60
  go_wp2
  obtain ⟨W0, hW0⟩ : ∃ W, (w.alloc (.cells #[.bool false, .string ⟨#[]⟩] 29)).alloc (.cells #[.bool false, .string ⟨#[]⟩] 29) = W := ⟨_, rfl⟩
  rw [hW0] at HP4 HP5 HB ⊢
  clear hW0
  obtain ⟨B4, hB4⟩ : ∃ B, w.heap.size = B := ⟨_, rfl⟩
  have hx : (w.heap.size + 1) = B4 + 1 := by rw [hB4]
  rw [hB4] at HP4 HP5 HB ⊢
  have HB4 := Lib.hid hB4
  clear hB4 hx
  go_loopg [6] (Ws.length + 1) (fun gg v6 wr => ∃ i : Nat, v6 = .int .i64 (i : Int) ∧ i ≤ Ws.length ∧ Ws.length - i < gg ∧ BC wr B4 [.bool false, .string ⟨#[]⟩] ∧ BC wr (B4 + 1) [.bool false, .string (mg ((prods Ws ds).take i).sum)] ∧ Below B4 w wr)
  case atStart => exact ⟨0, rfl, Nat.zero_le _, by omega, HP4.out, by rw [List.take_zero, show ([] : List Nat).sum = 0 from rfl, mg_zero]; exact HP5.out, HB.out⟩
  case round =>
    obtain ⟨i, rfl, hi, hig, h4, h5, hb⟩ := hrel
    clear HP4 HP5 HB
    have HP4 := Lib.hid h4
    have HP5 := Lib.hid h5
    have HB := Lib.hid hb
    have HG := Lib.hid hig
    clear h4 h5 hb hig
    by_cases hlt : i < Ws.length
    · have hltI : (i : Int) < Ws.length := by omega
      obtain ⟨x, hx⟩ : ∃ x, Ws[i]? = some x := ⟨Ws[i], List.getElem?_eq_getElem hlt⟩
      obtain ⟨d, hd⟩ : ∃ d, ds[i]? = some d := ⟨ds[i]'(by rw [HL.out]; exact hlt), List.getElem?_eq_getElem _⟩
      have HBW := Lib.hid (show Below w.heap.size w wr by rw [HB4.out]; exact HB.out)
      obtain ⟨A, rfl, c0, c1⟩ := (HSL.out.below HBW.out) i false (mg x) (by unfold VL; rw [List.getElem?_map, hx]; rfl)
      have c2 : wr.cell? ⟨(A.add (i * 2)).block, (A.add (i * 2)).off + 1, none⟩ = some (.string (mg x)) := by rw [addr_next]; exact c1
      obtain ⟨g, rfl, hcd⟩ := HAT.out i _ (by unfold natV; rw [List.getElem?_map, hd]; rfl)
      have hgl := World.block_lt_of_cell? w _ hcd
      have c3 := (HBW.out.cell (p := g.add i) hgl).trans hcd
      have HX := Lib.hid (take_sum_succ (prods_at hx hd))
      have hxs := HW1.out x (List.mem_of_getElem? hx)
      have hds := HD2.out d (List.mem_of_getElem? hd)
      have hpt := take_sum_le (prods Ws ds) i
      have hps : x * d < 2 ^ (N + 62) := by rw [Nat.pow_add]; exact Nat.mul_lt_mul'' hxs hds
      have HOF := Lib.hid (fun W => rOfM (d := d) (by omega) W)
      have HMU := Lib.hid (fun W => rMulM (N := N) (M := 62) hxs hds (by omega) (by omega) W)
      have HAD := Lib.hid (fun W => rAddN (x := ((prods Ws ds).take i).sum) (d := x * d) (N + 62 + 10) (N + 62) (Nat.lt_of_le_of_lt hpt HCB.out) hps (by omega) (by omega) W)
      obtain ⟨S, hS⟩ : ∃ S, ((prods Ws ds).take i).sum = S := ⟨_, rfl⟩
      obtain ⟨xd, hxd⟩ : ∃ y, x * d = y := ⟨_, rfl⟩
      rw [hS] at HX HAD HP5
      rw [hxd] at HX HAD HMU
      have HA4 := Lib.hid HP4.out
      have HA5 := Lib.hid HP5.out
      have HAB := Lib.hid HB.out
      have c4 := c3
      clear hxs hds hpt hps hS hxd hx hd hcd hgl
      go_wp2_with fail
      refine wp_region_front 12 zvI (by kernel_rfl) shI (by kernel_rfl) (by kernel_rfl) (zvI_alloc _ (by kernel_rfl)) (shI_store _ (by kernel_rfl)) ?_
      intro mm BW hm1 hm2 hBW
      haveI := clm_some mm BW
      have fq0 := fun u : Clm mm BW => u.cell hm1 hBW (HA5.out.at 0 _ rfl)
      have fr0 := fun u : Clm mm BW => u.cell hm1 hBW (HA5.out.at 1 _ rfl)
      have fq1 := fun u : Clm mm BW => u.cellM hm1 hBW c0
      have fr1 := fun u : Clm mm BW => u.cellM hm1 hBW c2
      have fs1 := fun u : Clm mm BW => u.cellM hm1 hBW c4
      simp only [frontOf, unmade, List.take_succ_cons, List.take_zero, List.map_cons, List.map_nil]
      iterate 9 (go_big_quiet_step (fail))
      go_big_quiet_step ((go_at_call 62; exact quiet_clm hm2 HOF.out _))
      go_big_quiet_step ((go_at_call 85; exact quiet_clm hm2 HMU.out _))
      go_big_quiet_step ((go_at_call 63; exact quiet_clm hm2 HAD.out _))
      refine wpQuiet_nil ?_
      refine ⟨List.forall_mem_nil _, ?_⟩
      intro γ w9 hB9 hF
      clear hF hBW this hm1 hm2 fq0 fr0 fq1 fr1 fs1
      clear BW mm
      simp only [madesFrom, Facts, patch, List.take_succ_cons, List.take_zero, List.drop_succ_cons, List.drop_zero]
      clear γ
      have HQ4 := Lib.hid (HA4.out.below hB9)
      have HQ5 := Lib.hid (HA5.out.below hB9)
      have HQB := Lib.hid (HAB.out.grown (Below.grows hB9) (by rw [← HB4.out]; exact HAB.out.size) (fun k e => by cases e))
      clear hB9 HA4 HA5 HAB c4 HP4 HP5 HB HOF HMU HAD
      have x0 := HQ5.out.at 0 _ rfl
      have x1 := HQ5.out.at 1 _ rfl
      have z0 := HQ5.out.z 0 (by simp)
      have z1 := HQ5.out.z 1 (by simp)
      go_wp2_with fail
      go_roundg (Ws.length - i)
      case rel =>
        refine ⟨i + 1, by go_num, by omega, by omega, (HQ4.out.other 0 _ (by simp)).other 1 _ (by simp), ?_, (HQB.out.setCell (p := ⟨_, 0, none⟩) (by simp) _).setCell (p := ⟨_, 1, none⟩) (by simp) _⟩
        rw [HX.out]
        exact HQ5.out.set2 0 1 _ _ (by simp) (by simp)
      case measure => have := HG.out; omega
    · obtain rfl : i = Ws.length := by omega
      have hB : decide ((Ws.length : Int) < Ws.length) = false := by simp
      have x0 := HP5.out.at 0 _ rfl
      have x1 := HP5.out.at 1 _ rfl
      have y0 := HP4.out.at 0 _ rfl
      have y1 := HP4.out.at 1 _ rfl
      have z0 := HP4.out.z 0 (by simp)
      have z1 := HP4.out.z 1 (by simp)
      have HS := Lib.hid (show ((prods Ws ds).take Ws.length).sum = csum Ws ds from by rw [List.take_of_length_le (by rw [HP.out]; exact Nat.le_refl _)]; rfl)
      have HF := Lib.hid (HP4.out.set2 0 1 (.bool false) (.string (mg ((prods Ws ds).take Ws.length).sum)) (by simp) (by simp))
      go_wp2
      have p0 := HF.out.at 0 _ rfl
      have p1 := HF.out.at 1 _ rfl
      refine bodyPost_ret (v := .agg #[.bool false, .string (mg ((prods Ws ds).take Ws.length).sum)]) (by simp [results, Tryz.results60, go_sem, p0, p1]) rfl ⟨?_, ?_⟩
      · rw [HS.out]; rfl
      · rw [HB4.out]
        exact (HB.out.setCell (p := ⟨_, 0, none⟩) (Nat.le_refl _) _).setCell (p := ⟨_, 1, none⟩) (Nat.le_refl _) _
set_option maxRecDepth 100000 in
set_option maxHeartbeats 4000000 in
theorem rcklO_any (cap : Nat) (a : Option Addr) (L : List (Bool × ByteArray)) (v : Value) (xs : List Int) (hL : L.length ≤ maxLen) (hx : xs.length ≤ maxLen) (hz : ∀ x ∈ L, x.2.size ≤ 100000) (w : World) (hSl : Sl w a L) (hv : RowO w v (intsV xs)) :
    Calls Tryz.prog 59 #[.slice a L.length cap, v] w fun e w' => e = .returned (.int .i64 (costE L xs)) ∧ Below w.heap.size w w' := by
  have HCK := Lib.hid (rcheckW_any a cap L w hL (fun x hx => Nat.le_trans (hz x hx) (by decide)) hSl)
  obtain ⟨ad, c, rfl, hat⟩ := hv
  rw [intsV_len]
  have HAT := Lib.hid hat
  unfold maxLen at hL hx
  clear hat hSl hz
  by_cases h0 : ¬ chkW L = 0
  · have hE : costE L xs = chkW L := by unfold costE; rw [if_pos h0]
    rw [hE]
    obtain ⟨E, hE⟩ : ∃ E, chkW L = E := ⟨_, rfl⟩
    rw [hE] at HCK h0 ⊢
    have hne : (E != 0) = true := by simpa using h0
    clear hE h0
    go_enter Tryz.func59, Tryz.ntmps59
    go_wp2_with fail
    refine HCK.out.mono ?_
    rintro e w1 ⟨rfl, hb⟩
    go_wp2
    go_ret
    exact ⟨rfl, hb⟩
  have h0 := Decidable.not_not.1 h0
  rw [h0] at HCK
  by_cases hl : xs.length ≠ L.length
  · have hE : costE L xs = 11 := by unfold costE; rw [if_neg (by simp [h0]), if_pos hl]
    rw [hE]
    have hlI : ((xs.length : Int) != (L.length : Int)) = true := by simp; omega
    have hlN : ¬ (xs.length : Int) = (L.length : Int) := by omega
    clear hE h0
    go_enter Tryz.func59, Tryz.ntmps59
    go_wp2_with fail
    refine HCK.out.mono ?_
    rintro e w1 ⟨rfl, hb⟩
    go_wp2
    go_ret
    exact ⟨rfl, hb⟩
  have hl := Decidable.not_not.1 hl
  have HE := Lib.hid (show costE L xs = if xs.any badL = true then 2 else 0 from by unfold costE; rw [if_neg (by simp [h0]), if_neg (by simp [hl])])
  obtain ⟨n, hn⟩ : ∃ n, xs.length = n := ⟨_, rfl⟩
  have HN := Lib.hid hn
  rw [← hl, hn] at HCK ⊢
  rw [hn] at hx
  clear h0 hl hL hn
  obtain ⟨E, hEE⟩ : ∃ E, costE L xs = E := ⟨_, rfl⟩
  rw [hEE] at HE ⊢
  clear hEE
  go_enter Tryz.func59, Tryz.ntmps59
  go_wp2_with fail
  refine HCK.out.mono ?_
  rintro e w1 ⟨rfl, hb⟩
  have HB := Lib.hid hb
  clear hb HCK
  go_wp2_with fail
  go_loopg [6] (n + 1) (fun gg v6 wr => ∃ i : Nat, v6 = .int .i64 (i : Int) ∧ i ≤ n ∧ n - i < gg ∧ (xs.take i).any badL = false ∧ Below w.heap.size w wr)
  case atStart => exact ⟨0, rfl, Nat.zero_le _, by omega, rfl, HB.out⟩
  case round =>
    obtain ⟨i, rfl, hi, hg, hno, hb⟩ := hrel
    clear HB
    have HG := Lib.hid hg
    have HNO := Lib.hid hno
    have HB := Lib.hid hb
    clear hg hno hb
    by_cases hlt : i < n
    · have hltI : (i : Int) < (n : Int) := by omega
      obtain ⟨x, hx2⟩ : ∃ x, xs[i]? = some x := ⟨xs[i]'(by rw [HN.out]; exact hlt), List.getElem?_eq_getElem _⟩
      obtain ⟨g, rfl, c0⟩ := HAT.out i _ (show (intsV xs)[i]? = some (.int .i64 x) from by unfold intsV; rw [List.getElem?_map, hx2]; rfl)
      have c1 := (HB.out.cell (World.block_lt_of_cell? w _ c0)).trans c0
      have HX2 := Lib.hid hx2
      clear hx2 c0
      by_cases h1 : x < 1
      · have HV := Lib.hid (show E = 2 from by
          have : xs.any badL = true := List.any_eq_true.2 ⟨x, List.mem_of_getElem? HX2.out, by unfold badL; simp [h1]⟩
          rw [HE.out, if_pos this])
        go_wp2
        go_ret
        exact ⟨by rw [HV.out]; rfl, HB.out⟩
      · have h1B : decide (x < 1) = false := by simp; omega
        by_cases h2 : 64 < x
        · have HV := Lib.hid (show E = 2 from by
            have : xs.any badL = true := List.any_eq_true.2 ⟨x, List.mem_of_getElem? HX2.out, by unfold badL; simp [h2]⟩
            rw [HE.out, if_pos this])
          go_wp2
          go_ret
          exact ⟨by rw [HV.out]; rfl, HB.out⟩
        · have h2B : decide (64 < x) = false := by simp; omega
          have HX3 := Lib.hid (show (xs.take (i + 1)).any badL = false from by
            rw [List.take_add_one, HX2.out, List.any_append, HNO.out]
            simp [badL, h1B, h2B])
          go_wp2
          go_roundg (n - i)
          case measure => have := HG.out; omega
          case rel => exact ⟨i + 1, by go_num, by omega, by omega, HX3.out, HB.out⟩
    · obtain rfl : i = n := by omega
      have hB : decide ((i : Int) < (i : Int)) = false := by simp
      have HV := Lib.hid (show E = 0 from by
        have := HNO.out
        rw [List.take_of_length_le (by rw [HN.out]; exact Nat.le_refl _)] at this
        rw [HE.out, if_neg (by rw [this]; simp)])
      go_wp2
      go_ret
      exact ⟨by rw [HV.out]; rfl, HB.out⟩
set_option maxRecDepth 100000 in
set_option maxHeartbeats 4000000 in
theorem rCost38O_any (cap : Nat) (a : Option Addr) (L : List (Bool × ByteArray)) (v : Value) (xs : List Int) (hL : L.length ≤ maxLen) (hx : xs.length ≤ maxLen) (hz : ∀ x ∈ L, x.2.size ≤ 1000) (w : World) (hSl : Sl w a L) (hv : RowO w v (intsV xs)) :
    Calls Tryz.prog 34 #[.slice a L.length cap, v] w fun e w' => (∃ z : Nat, e = .returned (.tuple #[VN z, .int .i64 (costE L xs)]) ∧ (costE L xs ≠ 0 → z = 0) ∧ (costE L xs = 0 → ∃ (Ws ds : List Nat), L = VL Ws ∧ xs = ds.map (fun (k : Nat) => (k : Int)) ∧ ds.length = Ws.length ∧ z = csum Ws ds)) ∧ Below w.heap.size w w' := by
  have hb1 : Below w.heap.size w (w.alloc (.cells #[.bool false, .string ⟨#[]⟩] 29)) := (Below.refl _ _).alloc (Nat.le_refl _) _
  have HCK := Lib.hid (rcklO_any cap a L v xs hL hx (fun x h => Nat.le_trans (hz x h) (by decide)) _ (hSl.below hb1) (hv.below hb1))
  have HP := Lib.hid (BC.new w w.heap.size #[.bool false, .string ⟨#[]⟩] 29 rfl)
  have HB := Lib.hid hb1
  clear hb1
  obtain ⟨X, hX⟩ : ∃ X, w.alloc (.cells #[.bool false, .string ⟨#[]⟩] 29) = X := ⟨_, rfl⟩
  rw [hX] at HCK HP HB
  obtain ⟨p, hp⟩ : ∃ p, w.heap.size = p := ⟨_, rfl⟩
  have HPP := Lib.hid hp
  rw [hp] at HP
  by_cases h0 : ¬ costE L xs = 0
  · obtain ⟨E, hE⟩ : ∃ E, costE L xs = E := ⟨_, rfl⟩
    rw [hE] at HCK h0 ⊢
    have hne : (E != 0) = true := by simpa using h0
    have HN := Lib.hid h0
    clear hE h0 hSl hz hv
    go_enter Tryz.func34, Tryz.ntmps34
    go_wp2_with fail
    refine HCK.out.mono ?_
    rintro e w1 ⟨rfl, hb⟩
    have HB2 := Lib.hid (bstep HB.out hb)
    have b1 := HP.out.below hb
    have t0 := b1.at 0 _ rfl
    have t1 := b1.at 1 _ rfl
    have z0 := b1.z 0 (by simp)
    have z1 := b1.z 1 (by simp)
    have HS := Lib.hid (b1.set2 0 1 (.bool false) (.string ⟨#[]⟩) (by simp) (by simp))
    clear hb
    go_wp2
    have s0 := HS.out.at 0 _ rfl
    have s1 := HS.out.at 1 _ rfl
    refine bodyPost_ret (v := .tuple #[.agg #[.bool false, .string ⟨#[]⟩], .int .i64 E]) (by simp [results, Tryz.results34, go_sem, s0, s1]) rfl ⟨⟨0, by unfold VN; rw [mg_zero], fun _ => rfl, fun h => absurd h HN.out⟩, ?_⟩
    exact (HB2.out.setCell (p := ⟨_, 0, none⟩) (Nat.le_of_eq HPP.out) _).setCell (p := ⟨_, 1, none⟩) (Nat.le_of_eq HPP.out) _
  · have h0 := Decidable.not_not.1 h0
    rw [h0] at HCK ⊢
    have h1 := h0
    unfold costE at h1
    have hc : chkW L = 0 := by
      by_cases h : chkW L = 0
      · exact h
      · rw [if_pos h] at h1; exact absurd h1 h
    rw [if_neg (by simp [hc])] at h1
    have hl : xs.length = L.length := by
      by_cases h : xs.length = L.length
      · exact h
      · rw [if_pos h] at h1; cases h1
    rw [if_neg (by simp [hl])] at h1
    have hbad : xs.any badL = false := by
      cases h : xs.any badL with
      | false => rfl
      | true => rw [h] at h1; cases h1
    obtain ⟨ds, rfl, hds⟩ := not_bad hbad
    obtain ⟨h2, h64, Ws, hWs⟩ := chkW_ok hc
    obtain rfl : L = VL Ws := hWs
    rw [List.length_map, VL_len] at hl
    rw [VL_len] at HCK h2 h64 ⊢
    rw [intsV_nat] at hv
    obtain ⟨N, hN⟩ : ∃ N, N = 8000 := ⟨_, rfl⟩
    have hwz : ∀ z ∈ Ws, z < 2 ^ N := fun z h => mg_lt (hz (false, mg z) (List.mem_map.2 ⟨z, h, rfl⟩)) (by omega)
    have HCO := Lib.hid (fun W (hb : Below w.heap.size w W) => rcost38O_any a cap N Ws ds v hl (by omega) hwz (fun d h => by have := hds d h; omega) (by omega) W (hSl.below hb) (hv.below hb))
    have HLL := Lib.hid hl
    clear hN h0 h1 hc hbad hds h2 h64 hSl hz hv hwz hL hx hl
    obtain ⟨z, hzz⟩ : ∃ z, csum Ws ds = z := ⟨_, rfl⟩
    have HZ := Lib.hid hzz
    rw [hzz] at HCO
    clear hzz
    go_enter Tryz.func34, Tryz.ntmps34
    go_wp2_with fail
    refine HCK.out.mono ?_
    rintro e w1 ⟨rfl, hb⟩
    have HB2 := Lib.hid (bstep HB.out hb)
    have HP2 := Lib.hid (HP.out.below hb)
    have HC2 := Lib.hid (HCO.out w1 HB2.out)
    clear hb
    go_wp2_with fail
    refine HC2.out.mono ?_
    rintro e w2 ⟨rfl, hb⟩
    have HB3 := Lib.hid (bstep HB2.out hb)
    have b1 := HP2.out.below hb
    have t0 := b1.at 0 _ rfl
    have t1 := b1.at 1 _ rfl
    have z0 := b1.z 0 (by simp)
    have z1 := b1.z 1 (by simp)
    have HS := Lib.hid (b1.set2 0 1 (.bool false) (.string (mg z)) (by simp) (by simp))
    clear hb
    unfold VN
    go_wp2
    have s0 := HS.out.at 0 _ rfl
    have s1 := HS.out.at 1 _ rfl
    refine bodyPost_ret (v := .tuple #[.agg #[.bool false, .string (mg z)], .int .i64 0]) (by simp [results, Tryz.results34, go_sem, s0, s1]) rfl ⟨⟨z, rfl, fun h => absurd rfl h, fun _ => ⟨Ws, ds, rfl, rfl, HLL.out, HZ.out.symm⟩⟩, ?_⟩
    exact (HB3.out.setCell (p := ⟨_, 0, none⟩) (Nat.le_of_eq HPP.out) _).setCell (p := ⟨_, 1, none⟩) (Nat.le_of_eq HPP.out) _
end Go.Proofs.Gv
