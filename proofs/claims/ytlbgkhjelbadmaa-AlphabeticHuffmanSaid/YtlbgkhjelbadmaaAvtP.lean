/- The law AlphabeticCodes. -/
import Derived.Test.YtlbgkhjelbadmaaAw40
set_option linter.unusedSimpArgs false
set_option linter.unusedVariables false
namespace Go.Proofs.Gv
open Go Go.RowKit Go.Maps

def cdE (L : List Int) : Int := if lenE L ≠ 0 then lenE L else match wrd (L.map Int.toNat) with | none => 15 | some _ => 0
def cdW (L : List Int) : List ByteArray := if lenE L ≠ 0 then [] else (wrd (L.map Int.toNat)).getD []
theorem SR.nil (W : World) : SR W (.slice none 0 0) [] := ⟨none, 0, rfl, Nat.le_refl _, Nat.zero_le _, fun i s hi => by simp at hi⟩
theorem CdP.out {L : List Int} {w : World} {e : Ending} {w' : World} (h : CdP L w e w') : ∃ v, e = .returned (.tuple #[v, .int .i64 (cdE L)]) ∧ SR w' v (cdW L) ∧ Below w.heap.size w w' := by
  obtain ⟨h, hb⟩ := h
  unfold cdE cdW
  by_cases h0 : lenE L ≠ 0
  · rw [if_pos h0] at h
    rw [if_pos h0, if_pos h0]
    exact ⟨_, h, SR.nil _, hb⟩
  · rw [if_neg h0] at h
    rw [if_neg h0, if_neg h0]
    cases hw : wrd (L.map Int.toNat) with
    | none => rw [hw] at h; exact ⟨_, h, SR.nil _, hb⟩
    | some ws => rw [hw] at h; obtain ⟨v, e1, h1⟩ := h; exact ⟨v, e1, h1, hb⟩
end Go.Proofs.Gv

namespace Go.Proofs.Gv
open Go Go.RowKit Go.Maps

theorem Clm.cellA {m : Nat} {W B : World} (hm : W.heap.size ≤ m) (hB : Below W.heap.size W B) (u : Clm m B) {p : Addr} {v : Value} (h : W.cell? p = some v) : u.x.cell? p = some v :=
  ((u.old hm hB).cell (World.block_lt_of_cell? W _ h)).trans h
set_option maxRecDepth 100000 in
set_option maxHeartbeats 4000000 in
theorem total_any (a b : Option Addr) (cap cb N : Nat) (Ws ds : List Nat) (hl : ds.length = Ws.length) (h3 : Ws.length ≤ 1000) (h1 : ∀ z ∈ Ws, z < 2 ^ N) (h2 : ∀ d ∈ ds, d < 2 ^ 62) (hN : N ≤ 1000000) (w : World) (hSl : Sl w a (VL Ws)) (hv : NSl w b (inL ds)) :
    Calls Try.prog 19 #[.slice a Ws.length cap, .slice b ds.length cb] w fun e w' => e = .returned (VN (csum Ws ds)) ∧ Below w.heap.size w w' := by
  rw [hl]
  have hat := hv
  have HP := Lib.hid (prods_len hl)
  have HCB := Lib.hid (csum_lt hl h1 h2 h3)
  have HAT := Lib.hid hat
  have HSL := Lib.hid hSl
  have HL := Lib.hid hl
  have HW1 := Lib.hid h1
  have HD2 := Lib.hid h2
  have HP4 := Lib.hid ((BC.new w w.heap.size #[.bool false, .string ⟨#[]⟩] 37 rfl).alloc (.cells #[.bool false, .string ⟨#[]⟩] 37))
  have HP5 := Lib.hid (BC.new (w.alloc (.cells #[.bool false, .string ⟨#[]⟩] 37)) (w.heap.size + 1) #[.bool false, .string ⟨#[]⟩] 37 (by simp))
  have HB := Lib.hid (((Below.refl w.heap.size w).alloc (Nat.le_refl _) (.cells #[.bool false, .string ⟨#[]⟩] 37)).alloc (by simp) (.cells #[.bool false, .string ⟨#[]⟩] 37))
  clear hat hSl hl h1 h2
  go_enter Try.func19, Try.ntmps19
  go_wp2
  obtain ⟨W0, hW0⟩ : ∃ W, (w.alloc (.cells #[.bool false, .string ⟨#[]⟩] 37)).alloc (.cells #[.bool false, .string ⟨#[]⟩] 37) = W := ⟨_, rfl⟩
  rw [hW0] at HP4 HP5 HB ⊢
  clear hW0
  obtain ⟨B4, hB4⟩ : ∃ B, w.heap.size = B := ⟨_, rfl⟩
  have hx : (w.heap.size + 1) = B4 + 1 := by rw [hB4]
  rw [hB4] at HP4 HP5 HB ⊢
  have HB4 := Lib.hid hB4
  clear hB4 hx
  go_loopg [10] (Ws.length + 1) (fun gg v10 wr => ∃ i : Nat, v10 = .int .i64 (i : Int) ∧ i ≤ Ws.length ∧ Ws.length - i < gg ∧ BC wr B4 [.bool false, .string ⟨#[]⟩] ∧ BC wr (B4 + 1) [.bool false, .string (mg ((prods Ws ds).take i).sum)] ∧ Below B4 w wr)
  case atStart => exact ⟨0, rfl, Nat.zero_le _, by omega, HP4.out, by rw [List.take_zero, show ([] : List Nat).sum = 0 from rfl, mg_zero]; exact HP5.out, HB.out⟩
  case round =>
    obtain ⟨i, rfl, hi, hig, h4, h5, hb⟩ := hrel
    clear HP4 HP5 HB
    have HP4 := Lib.hid h4
    have HP5 := Lib.hid h5
    have HB := Lib.hid hb
    have HG := Lib.hid hig
    clear h4 h5 hb hig
    by_cases hlt : i < Ws.length
    · have hltI : (i : Int) < Ws.length := by omega
      obtain ⟨x, hx⟩ : ∃ x, Ws[i]? = some x := ⟨Ws[i], List.getElem?_eq_getElem hlt⟩
      obtain ⟨d, hd⟩ : ∃ d, ds[i]? = some d := ⟨ds[i]'(by rw [HL.out]; exact hlt), List.getElem?_eq_getElem _⟩
      have HBW := Lib.hid (show Below w.heap.size w wr by rw [HB4.out]; exact HB.out)
      obtain ⟨A, rfl, c0, c1⟩ := (HSL.out.below HBW.out) i false (mg x) (by unfold VL; rw [List.getElem?_map, hx]; rfl)
      have c2 : wr.cell? ⟨(A.add (i * 2)).block, (A.add (i * 2)).off + 1, none⟩ = some (.string (mg x)) := by rw [addr_next]; exact c1
      obtain ⟨AB, rfl, hcd⟩ := HAT.out i (d : Int) (by unfold inL; rw [List.getElem?_map, hd]; rfl)
      have hgl := World.block_lt_of_cell? w _ hcd
      have c3 := (HBW.out.cell (p := AB.add i) hgl).trans hcd
      have HX := Lib.hid (take_sum_succ (prods_at hx hd))
      have hxs := HW1.out x (List.mem_of_getElem? hx)
      have hds := HD2.out d (List.mem_of_getElem? hd)
      have hpt := take_sum_le (prods Ws ds) i
      have hps : x * d < 2 ^ (N + 62) := by rw [Nat.pow_add]; exact Nat.mul_lt_mul'' hxs hds
      have HOF := Lib.hid (fun W => show Calls Try.prog 26 #[.int .i64 (d : Int)] W fun e w' => e = .returned (.agg #[.bool false, .string (mg d)]) ∧ Below W.heap.size W w' from by
        have := cOf (d : Int) (by omega) (by omega) W
        rwa [Int.natAbs_natCast, show sgn (d : Int) = false from decide_eq_false (by omega)] at this)
      have HMU := Lib.hid (fun W => show Calls Try.prog 50 #[.agg #[.bool false, .string (mg x)], .agg #[.bool false, .string (mg d)]] W fun e w' => e = .returned (.agg #[.bool false, .string (mg (x * d))]) ∧ Below W.heap.size W w' from by
        have := cMul (VN_rp (N := N) hxs (by omega)) (VN_rp (N := 62) hds (by omega)) W
        rwa [show (x : Int) * (d : Int) = ((x * d : Nat) : Int) by simp, Int.natAbs_natCast, show sgn ((x * d : Nat) : Int) = false from decide_eq_false (by omega)] at this)
      have HAD := Lib.hid (fun W => show Calls Try.prog 25 #[.agg #[.bool false, .string (mg ((prods Ws ds).take i).sum)], .agg #[.bool false, .string (mg (x * d))]] W fun e w' => e = .returned (.agg #[.bool false, .string (mg (((prods Ws ds).take i).sum + x * d))]) ∧ Below W.heap.size W w' from by
        have := cAdd (VN_rp (z := ((prods Ws ds).take i).sum) (N := N + 62 + 10) (Nat.lt_of_le_of_lt hpt HCB.out) (by omega)) (VN_rp (N := N + 62) hps (by omega)) W
        rwa [show ((((prods Ws ds).take i).sum : Nat) : Int) + ((x * d : Nat) : Int) = ((((prods Ws ds).take i).sum + x * d : Nat) : Int) by simp, Int.natAbs_natCast, show sgn ((((prods Ws ds).take i).sum + x * d : Nat) : Int) = false from decide_eq_false (by omega)] at this)
      obtain ⟨S, hS⟩ : ∃ S, ((prods Ws ds).take i).sum = S := ⟨_, rfl⟩
      obtain ⟨xd, hxd⟩ : ∃ y, x * d = y := ⟨_, rfl⟩
      rw [hS] at HX HAD HP5
      rw [hxd] at HX HAD HMU
      have HA4 := Lib.hid (HP4.out.alloc (.cells #[.bool false, .string (mg x)] 37))
      have HA5 := Lib.hid (HP5.out.alloc (.cells #[.bool false, .string (mg x)] 37))
      have HA7 := Lib.hid (BC.new wr wr.heap.size #[.bool false, .string (mg x)] 37 rfl)
      have HAB := Lib.hid (HB.out.alloc (by have := HB.out.size; have := HB4.out; omega) (.cells #[.bool false, .string (mg x)] 37))
      have HC3 := Lib.hid (((Below.refl wr.heap.size wr).alloc (Nat.le_refl _) (.cells #[.bool false, .string (mg x)] 37)).cell (p := AB.add i) (World.block_lt_of_cell? wr _ c3))
      have c4 := HC3.out.trans c3
      clear hxs hds hpt hps hS hxd hx hd hcd hgl HC3
      go_wp2_with fail
      obtain ⟨W, hW⟩ : ∃ W, wr.alloc (.cells #[.bool false, .string (mg x)] 37) = W := ⟨_, rfl⟩
      rw [hW] at HA4 HA5 HA7 HAB c4 ⊢
      clear hW
      refine wp_region_front 9 zvI (by kernel_rfl) shI (by kernel_rfl) (by kernel_rfl) (zvI_alloc _ (by kernel_rfl)) (shI_store _ (by kernel_rfl)) ?_
      intro mm BW hm1 hm2 hBW
      haveI := clm_some mm BW
      have fq0 := fun u : Clm mm BW => u.cell hm1 hBW (HA5.out.at 0 _ rfl)
      have fr0 := fun u : Clm mm BW => u.cell hm1 hBW (HA5.out.at 1 _ rfl)
      have fq1 := fun u : Clm mm BW => u.cell hm1 hBW (HA7.out.at 0 _ rfl)
      have fr1 := fun u : Clm mm BW => u.cell hm1 hBW (HA7.out.at 1 _ rfl)
      have fs1 := fun u : Clm mm BW => u.cellA hm1 hBW c4
      simp only [frontOf, unmade, List.take_succ_cons, List.take_zero, List.map_cons, List.map_nil]
      iterate 6 (go_big_quiet_step (fail))
      go_big_quiet_step ((go_at_call 26; exact quiet_clm hm2 HOF.out _))
      go_big_quiet_step ((go_at_call 50; exact quiet_clm hm2 HMU.out _))
      go_big_quiet_step ((go_at_call 25; exact quiet_clm hm2 HAD.out _))
      refine wpQuiet_nil ?_
      refine ⟨List.forall_mem_nil _, ?_⟩
      intro γ w9 hB9 hF
      clear hF hBW this hm1 hm2 fq0 fr0 fq1 fr1 fs1
      clear BW mm
      simp only [madesFrom, Facts, patch, List.take_succ_cons, List.take_zero, List.drop_succ_cons, List.drop_zero]
      clear γ
      have HQ4 := Lib.hid (HA4.out.below hB9)
      have HQ5 := Lib.hid (HA5.out.below hB9)
      have HQB := Lib.hid (HAB.out.grown (Below.grows hB9) (by rw [← HB4.out]; exact HAB.out.size) (fun k e => by cases e))
      clear hB9 HA4 HA5 HA7 HAB c4 HP4 HP5 HB HOF HMU HAD
      have x0 := HQ5.out.at 0 _ rfl
      have x1 := HQ5.out.at 1 _ rfl
      have z0 := HQ5.out.z 0 (by simp)
      have z1 := HQ5.out.z 1 (by simp)
      go_wp2_with fail
      go_roundg (Ws.length - i)
      case rel =>
        refine ⟨i + 1, by go_num, by omega, by omega, (HQ4.out.other 0 _ (by simp)).other 1 _ (by simp), ?_, (HQB.out.setCell (p := ⟨_, 0, none⟩) (by simp) _).setCell (p := ⟨_, 1, none⟩) (by simp) _⟩
        rw [HX.out]
        exact HQ5.out.set2 0 1 _ _ (by simp) (by simp)
      case measure => have := HG.out; omega
    · obtain rfl : i = Ws.length := by omega
      have hB : decide ((Ws.length : Int) < Ws.length) = false := by simp
      have x0 := HP5.out.at 0 _ rfl
      have x1 := HP5.out.at 1 _ rfl
      have y0 := HP4.out.at 0 _ rfl
      have y1 := HP4.out.at 1 _ rfl
      have z0 := HP4.out.z 0 (by simp)
      have z1 := HP4.out.z 1 (by simp)
      have HS := Lib.hid (show ((prods Ws ds).take Ws.length).sum = csum Ws ds from by rw [List.take_of_length_le (by rw [HP.out]; exact Nat.le_refl _)]; rfl)
      have HF := Lib.hid (HP4.out.set2 0 1 (.bool false) (.string (mg ((prods Ws ds).take Ws.length).sum)) (by simp) (by simp))
      go_wp2
      have p0 := HF.out.at 0 _ rfl
      have p1 := HF.out.at 1 _ rfl
      refine bodyPost_ret (v := .agg #[.bool false, .string (mg ((prods Ws ds).take Ws.length).sum)]) (by simp [results, Try.results19, go_sem, p0, p1]) rfl ⟨?_, ?_⟩
      · rw [HS.out]; rfl
      · rw [HB4.out]
        exact (HB.out.setCell (p := ⟨_, 0, none⟩) (Nat.le_refl _) _).setCell (p := ⟨_, 1, none⟩) (Nat.le_refl _) _
noncomputable def vldA (L : List (Bool × ByteArray)) : Bool := !grA L && chkW L == 0
theorem grA_sz {L : List (Bool × ByteArray)} (h : grA L = false) : ∀ x ∈ L, x.2.size ≤ 5 := fun x hx => by
  unfold grA at h
  rw [Bool.or_eq_false_iff] at h
  have h1 := h.1
  unfold grB4 at h1
  have := List.any_eq_false.1 h1 x hx
  simpa using this
theorem vld_ok {L : List (Bool × ByteArray)} (h : vldA L = true) : ∃ Ws, L = VL Ws ∧ 2 ≤ Ws.length ∧ Ws.length ≤ 6 ∧ chkW (VL Ws) = 0 ∧ (∀ x ∈ VL Ws, x.2.size ≤ 8) := by
  unfold vldA at h
  simp only [Bool.and_eq_true, Bool.not_eq_true', beq_iff_eq] at h
  obtain ⟨hg, h0⟩ := h
  obtain ⟨h2, h64, Ws, hw⟩ := chkW_ok h0
  obtain rfl : L = VL Ws := hw
  rw [VL_len] at h2 h64
  refine ⟨Ws, rfl, h2, ?_, h0, fun x hx => Nat.le_trans (grA_sz hg x hx) (by decide)⟩
  unfold grA at hg
  rw [VL_len] at hg
  simp at hg
  omega
set_option maxRecDepth 100000 in
set_option maxHeartbeats 1600000 in
theorem valid_any (a : Option Addr) (cap : Nat) (L : List (Bool × ByteArray)) (hL : L.length ≤ maxLen) (hz : ∀ x ∈ L, x.2.size ≤ maxLen) (w : World) (hS : Sl w a L) :
    Calls Try.prog 16 #[.slice a L.length cap] w fun e w' => e = .returned (.bool (vldA L)) ∧ Below w.heap.size w w' := by
  have HG := Lib.hid (greatA_any a cap L w hL hz hS)
  by_cases hg : grA L = true
  · rw [hg] at HG
    have HV := Lib.hid (show vldA L = false by unfold vldA; rw [hg]; rfl)
    clear hg hS hz hL
    go_enter Try.func16, Try.ntmps16
    go_wp2_with fail
    refine HG.out.mono ?_
    rintro e w1 ⟨rfl, ew⟩
    obtain rfl : w = w1 := ew.symm
    go_wp2
    go_ret
    exact ⟨by rw [HV.out]; rfl, Below.refl _ _⟩
  · have hg' : grA L = false := by simpa using hg
    have HC := Lib.hid (rcheckA_any a cap L w hL (fun x hx => Nat.le_trans (grA_sz hg' x hx) (by decide)) hS)
    rw [hg'] at HG
    obtain ⟨E, hE⟩ : ∃ E, chkW L = E := ⟨_, rfl⟩
    have HV := Lib.hid (show vldA L = (E == 0) by unfold vldA; rw [hg', hE]; rfl)
    rw [hE] at HC
    clear hg hg' hS hz hL hE
    go_enter Try.func16, Try.ntmps16
    go_wp2_with fail
    refine HG.out.mono ?_
    rintro e w1 ⟨rfl, ew⟩
    obtain rfl : w = w1 := ew.symm
    go_wp2_with fail
    refine HC.out.mono ?_
    rintro e w2 ⟨rfl, hb⟩
    go_wp2
    go_ret
    exact ⟨by rw [HV.out]; rfl, hb⟩
end Go.Proofs.Gv
