/- huffman.cost. -/
import Derived.Test.YtglgiofjgfbfgaaHcosP
set_option linter.unusedSimpArgs false
set_option linter.unusedVariables false
namespace Go.Proofs.Gv
open Go Go.RowKit Go.Maps

def prods (Ws ds : List Nat) : List Nat := (Ws.zip ds).map fun x => x.1 * x.2
def csum (Ws ds : List Nat) : Nat := (prods Ws ds).sum
theorem prods_at {Ws ds : List Nat} {i x d : Nat} (h1 : Ws[i]? = some x) (h2 : ds[i]? = some d) : (prods Ws ds)[i]? = some (x * d) := by
  unfold prods
  rw [List.getElem?_map, (List.getElem?_zip_eq_some (z := (x, d))).2 ⟨h1, h2⟩]
  rfl
theorem prods_len {Ws ds : List Nat} (h : ds.length = Ws.length) : (prods Ws ds).length = Ws.length := by unfold prods; rw [List.length_map, List.length_zip, h, Nat.min_self]
theorem take_sum_succ {P : List Nat} {i x : Nat} (h : P[i]? = some x) : (P.take (i + 1)).sum = (P.take i).sum + x := by
  rw [List.take_add_one, h, List.sum_append]; simp
theorem take_sum_le : ∀ (P : List Nat) (i : Nat), (P.take i).sum ≤ P.sum
  | [], i => by simp
  | x :: P, 0 => by simp
  | x :: P, i + 1 => by
    have := take_sum_le P i
    simp only [List.take_succ_cons, List.sum_cons]
    omega
theorem csum_lt {N : Nat} {Ws ds : List Nat} (hl : ds.length = Ws.length) (h1 : ∀ z ∈ Ws, z < 2 ^ N) (h2 : ∀ d ∈ ds, d < 2 ^ 62) (h3 : Ws.length ≤ 1000) : csum Ws ds < 2 ^ (N + 62 + 10) := by
  refine sum_lt (fun z hz => ?_) (by rw [prods_len hl]; exact h3)
  obtain ⟨⟨a, b⟩, hm, rfl⟩ := List.mem_map.1 hz
  have ha := h1 a (List.of_mem_zip hm).1
  have hb := h2 b (List.of_mem_zip hm).2
  rw [Nat.pow_add]
  exact Nat.mul_lt_mul'' ha hb
set_option maxRecDepth 100000 in
set_option maxHeartbeats 4000000 in
theorem cost_any (a : Option Addr) (cap N : Nat) (Ws ds : List Nat) (v : Value) (hl : ds.length = Ws.length) (h3 : Ws.length ≤ 1000) (h1 : ∀ z ∈ Ws, z < 2 ^ N) (h2 : ∀ d ∈ ds, d < 2 ^ 62) (hN : N ≤ 1000000) (w : World) (hSl : Sl w a (VL Ws)) (hv : RowAt w v (natV ds)) :
    Calls Try.prog 56 #[.slice a Ws.length cap, v] w fun e w' => e = .returned (VN (csum Ws ds)) ∧ Below w.heap.size w w' := by
  obtain ⟨ad, c, rfl, hat⟩ := hv
  rw [natV_len, hl]
  have HP := Lib.hid (prods_len hl)
  have HCB := Lib.hid (csum_lt hl h1 h2 h3)
  have HAT := Lib.hid hat
  have HSL := Lib.hid hSl
  have HL := Lib.hid hl
  have HW1 := Lib.hid h1
  have HD2 := Lib.hid h2
  have HP4 := Lib.hid ((BC.new w w.heap.size #[.bool false, .string ⟨#[]⟩] 29 rfl).alloc (.cells #[.bool false, .string ⟨#[]⟩] 29))
  have HP5 := Lib.hid (BC.new (w.alloc (.cells #[.bool false, .string ⟨#[]⟩] 29)) (w.heap.size + 1) #[.bool false, .string ⟨#[]⟩] 29 (by simp))
  have HB := Lib.hid (((Below.refl w.heap.size w).alloc (Nat.le_refl _) (.cells #[.bool false, .string ⟨#[]⟩] 29)).alloc (by simp) (.cells #[.bool false, .string ⟨#[]⟩] 29))
  clear hat hSl hl h1 h2
  go_enter Try.func56, Try.ntmps56
  go_wp2
  obtain ⟨W0, hW0⟩ : ∃ W, (w.alloc (.cells #[.bool false, .string ⟨#[]⟩] 29)).alloc (.cells #[.bool false, .string ⟨#[]⟩] 29) = W := ⟨_, rfl⟩
  rw [hW0] at HP4 HP5 HB ⊢
  clear hW0
  obtain ⟨B4, hB4⟩ : ∃ B, w.heap.size = B := ⟨_, rfl⟩
  have hx : (w.heap.size + 1) = B4 + 1 := by rw [hB4]
  rw [hB4] at HP4 HP5 HB ⊢
  have HB4 := Lib.hid hB4
  clear hB4 hx
  go_loopg [10] (Ws.length + 1) (fun gg v10 wr => ∃ i : Nat, v10 = .int .i64 (i : Int) ∧ i ≤ Ws.length ∧ Ws.length - i < gg ∧ BC wr B4 [.bool false, .string ⟨#[]⟩] ∧ BC wr (B4 + 1) [.bool false, .string (mg ((prods Ws ds).take i).sum)] ∧ Below B4 w wr)
  case atStart => exact ⟨0, rfl, Nat.zero_le _, by omega, HP4.out, by rw [List.take_zero, show ([] : List Nat).sum = 0 from rfl, mg_zero]; exact HP5.out, HB.out⟩
  case round =>
    obtain ⟨i, rfl, hi, hig, h4, h5, hb⟩ := hrel
    clear HP4 HP5 HB
    have HP4 := Lib.hid h4
    have HP5 := Lib.hid h5
    have HB := Lib.hid hb
    have HG := Lib.hid hig
    clear h4 h5 hb hig
    by_cases hlt : i < Ws.length
    · have hltI : (i : Int) < Ws.length := by omega
      obtain ⟨x, hx⟩ : ∃ x, Ws[i]? = some x := ⟨Ws[i], List.getElem?_eq_getElem hlt⟩
      obtain ⟨d, hd⟩ : ∃ d, ds[i]? = some d := ⟨ds[i]'(by rw [HL.out]; exact hlt), List.getElem?_eq_getElem _⟩
      have HBW := Lib.hid (show Below w.heap.size w wr by rw [HB4.out]; exact HB.out)
      obtain ⟨A, rfl, c0, c1⟩ := (HSL.out.below HBW.out) i false (mg x) (by unfold VL; rw [List.getElem?_map, hx]; rfl)
      have c2 : wr.cell? ⟨(A.add (i * 2)).block, (A.add (i * 2)).off + 1, none⟩ = some (.string (mg x)) := by rw [addr_next]; exact c1
      obtain ⟨g, rfl, hcd⟩ := HAT.out i _ (by unfold natV; rw [List.getElem?_map, hd]; rfl)
      have hgl := World.block_lt_of_cell? w _ hcd
      have c3 := (HBW.out.cell (p := ⟨g, i, none⟩) hgl).trans hcd
      have HX := Lib.hid (take_sum_succ (prods_at hx hd))
      have hxs := HW1.out x (List.mem_of_getElem? hx)
      have hds := HD2.out d (List.mem_of_getElem? hd)
      have hpt := take_sum_le (prods Ws ds) i
      have hps : x * d < 2 ^ (N + 62) := by rw [Nat.pow_add]; exact Nat.mul_lt_mul'' hxs hds
      have HOF := Lib.hid (fun W => show Calls Try.prog 12 #[.int .i64 (d : Int)] W fun e w' => e = .returned (.agg #[.bool false, .string (mg d)]) ∧ Below W.heap.size W w' from by
        have := cOf (d : Int) (by omega) (by omega) W
        rwa [Int.natAbs_natCast, show sgn (d : Int) = false from decide_eq_false (by omega)] at this)
      have HMU := Lib.hid (fun W => show Calls Try.prog 13 #[.agg #[.bool false, .string (mg x)], .agg #[.bool false, .string (mg d)]] W fun e w' => e = .returned (.agg #[.bool false, .string (mg (x * d))]) ∧ Below W.heap.size W w' from by
        have := cMul (VN_rp (N := N) hxs (by omega)) (VN_rp (N := 62) hds (by omega)) W
        rwa [show (x : Int) * (d : Int) = ((x * d : Nat) : Int) by simp, Int.natAbs_natCast, show sgn ((x * d : Nat) : Int) = false from decide_eq_false (by omega)] at this)
      have HAD := Lib.hid (fun W => show Calls Try.prog 42 #[.agg #[.bool false, .string (mg ((prods Ws ds).take i).sum)], .agg #[.bool false, .string (mg (x * d))]] W fun e w' => e = .returned (.agg #[.bool false, .string (mg (((prods Ws ds).take i).sum + x * d))]) ∧ Below W.heap.size W w' from by
        have := cAdd (VN_rp (z := ((prods Ws ds).take i).sum) (N := N + 62 + 10) (Nat.lt_of_le_of_lt hpt HCB.out) (by omega)) (VN_rp (N := N + 62) hps (by omega)) W
        rwa [show ((((prods Ws ds).take i).sum : Nat) : Int) + ((x * d : Nat) : Int) = ((((prods Ws ds).take i).sum + x * d : Nat) : Int) by simp, Int.natAbs_natCast, show sgn ((((prods Ws ds).take i).sum + x * d : Nat) : Int) = false from decide_eq_false (by omega)] at this)
      obtain ⟨S, hS⟩ : ∃ S, ((prods Ws ds).take i).sum = S := ⟨_, rfl⟩
      obtain ⟨xd, hxd⟩ : ∃ y, x * d = y := ⟨_, rfl⟩
      rw [hS] at HX HAD HP5
      rw [hxd] at HX HAD HMU
      have HA4 := Lib.hid (HP4.out.alloc (.cells #[.bool false, .string (mg x)] 29))
      have HA5 := Lib.hid (HP5.out.alloc (.cells #[.bool false, .string (mg x)] 29))
      have HA7 := Lib.hid (BC.new wr wr.heap.size #[.bool false, .string (mg x)] 29 rfl)
      have HAB := Lib.hid (HB.out.alloc (by have := HB.out.size; have := HB4.out; omega) (.cells #[.bool false, .string (mg x)] 29))
      have HC3 := Lib.hid (((Below.refl wr.heap.size wr).alloc (Nat.le_refl _) (.cells #[.bool false, .string (mg x)] 29)).cell (p := ⟨g, i, none⟩) (World.block_lt_of_cell? wr _ c3))
      have c4 := HC3.out.trans c3
      clear hxs hds hpt hps hS hxd hx hd hcd hgl HC3
      go_wp2_with fail
      obtain ⟨W, hW⟩ : ∃ W, wr.alloc (.cells #[.bool false, .string (mg x)] 29) = W := ⟨_, rfl⟩
      rw [hW] at HA4 HA5 HA7 HAB c4 ⊢
      clear hW
      refine wp_region_front 9 zvI (by kernel_rfl) shI (by kernel_rfl) (by kernel_rfl) (zvI_alloc _ (by kernel_rfl)) (shI_store _ (by kernel_rfl)) ?_
      intro mm BW hm1 hm2 hBW
      haveI := clm_some mm BW
      have fq0 := fun u : Clm mm BW => u.cell hm1 hBW (HA5.out.at 0 _ rfl)
      have fr0 := fun u : Clm mm BW => u.cell hm1 hBW (HA5.out.at 1 _ rfl)
      have fq1 := fun u : Clm mm BW => u.cell hm1 hBW (HA7.out.at 0 _ rfl)
      have fr1 := fun u : Clm mm BW => u.cell hm1 hBW (HA7.out.at 1 _ rfl)
      have fs1 := fun u : Clm mm BW => u.cell hm1 hBW c4
      simp only [frontOf, unmade, List.take_succ_cons, List.take_zero, List.map_cons, List.map_nil]
      iterate 6 (go_big_quiet_step (fail))
      go_big_quiet_step ((go_at_call 12; exact quiet_clm hm2 HOF.out _))
      go_big_quiet_step ((go_at_call 13; exact quiet_clm hm2 HMU.out _))
      go_big_quiet_step ((go_at_call 42; exact quiet_clm hm2 HAD.out _))
      refine wpQuiet_nil ?_
      refine ⟨List.forall_mem_nil _, ?_⟩
      intro γ w9 hB9 hF
      clear hF hBW this hm1 hm2 fq0 fr0 fq1 fr1 fs1
      clear BW mm
      simp only [madesFrom, Facts, patch, List.take_succ_cons, List.take_zero, List.drop_succ_cons, List.drop_zero]
      clear γ
      have HQ4 := Lib.hid (HA4.out.below hB9)
      have HQ5 := Lib.hid (HA5.out.below hB9)
      have HQB := Lib.hid (HAB.out.grown (Below.grows hB9) (by rw [← HB4.out]; exact HAB.out.size) (fun k e => by cases e))
      clear hB9 HA4 HA5 HA7 HAB c4 HP4 HP5 HB HOF HMU HAD
      have x0 := HQ5.out.at 0 _ rfl
      have x1 := HQ5.out.at 1 _ rfl
      have z0 := HQ5.out.z 0 (by simp)
      have z1 := HQ5.out.z 1 (by simp)
      go_wp2_with fail
      go_roundg (Ws.length - i)
      case rel =>
        refine ⟨i + 1, by go_num, by omega, by omega, (HQ4.out.other 0 _ (by simp)).other 1 _ (by simp), ?_, (HQB.out.setCell (p := ⟨_, 0, none⟩) (by simp) _).setCell (p := ⟨_, 1, none⟩) (by simp) _⟩
        rw [HX.out]
        exact HQ5.out.set2 0 1 _ _ (by simp) (by simp)
      case measure => have := HG.out; omega
    · obtain rfl : i = Ws.length := by omega
      have hB : decide ((Ws.length : Int) < Ws.length) = false := by simp
      have x0 := HP5.out.at 0 _ rfl
      have x1 := HP5.out.at 1 _ rfl
      have y0 := HP4.out.at 0 _ rfl
      have y1 := HP4.out.at 1 _ rfl
      have z0 := HP4.out.z 0 (by simp)
      have z1 := HP4.out.z 1 (by simp)
      have HS := Lib.hid (show ((prods Ws ds).take Ws.length).sum = csum Ws ds from by rw [List.take_of_length_le (by rw [HP.out]; exact Nat.le_refl _)]; rfl)
      have HF := Lib.hid (HP4.out.set2 0 1 (.bool false) (.string (mg ((prods Ws ds).take Ws.length).sum)) (by simp) (by simp))
      go_wp2
      have p0 := HF.out.at 0 _ rfl
      have p1 := HF.out.at 1 _ rfl
      refine bodyPost_ret (v := .agg #[.bool false, .string (mg ((prods Ws ds).take Ws.length).sum)]) (by simp [results, Try.results56, go_sem, p0, p1]) rfl ⟨?_, ?_⟩
      · rw [HS.out]; rfl
      · rw [HB4.out]
        exact (HB.out.setCell (p := ⟨_, 0, none⟩) (Nat.le_refl _) _).setCell (p := ⟨_, 1, none⟩) (Nat.le_refl _) _
end Go.Proofs.Gv
