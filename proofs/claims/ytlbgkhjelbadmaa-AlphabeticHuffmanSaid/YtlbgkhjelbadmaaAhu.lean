/- The law AlphabeticHuffman. -/
import Derived.Test.YtlbgkhjelbadmaaAmo
set_option linter.unusedSimpArgs false
set_option linter.unusedVariables false
namespace Go.Proofs.Gv
open Go Go.RowKit Go.Maps

@[go_sem] theorem run_max_zero3 {P : Program} {w : World} (ts : Array TypeId) (t : TypeId) : (Builtin.max_ ts t #[.int .i64 0, .int .i64 0, .int .i64 0]).run P w = .ok (.int .i64 0) w := by
  first
  | rfl
  | simp [Builtin.max_, go_sem]
theorem huf_64 {Ws : List Nat} (h2 : 2 ≤ Ws.length) (h64 : Ws.length ≤ 64) : ∀ d ∈ lenH 2 Ws, d ≤ 64 := fun d hd => by
  obtain ⟨-, -, h, -, -, h6⟩ := lenH_spec (q := 2) (by decide) (W := Ws) (by omega)
  have := h d hd
  rw [startL_len] at h6
  have := padT_lt (q := 2) (n := Ws.length) (by decide)
  omega
theorem huf_fit {Ws : List Nat} (h2 : 2 ≤ Ws.length) : Fit 2 (Ws.zip (lenH 2 Ws)) := by
  obtain ⟨-, h, h3, -⟩ := lenH_spec (q := 2) (by decide) (W := Ws) (by omega)
  refine ⟨(mergesH 2 Ws).length, fun x hx => h3 x.2 (List.of_mem_zip (a := x.1) (b := x.2) hx).2, (h _ (Nat.le_refl _)).1⟩
theorem huf_le {Ws : List Nat} (h2 : 2 ≤ Ws.length) : csum Ws (lenH 2 Ws) ≤ alc Ws := by
  obtain ⟨h1, -, -, h4, -⟩ := lenH_spec (q := 2) (by decide) (W := Ws) (by omega)
  obtain ⟨e1, e2, ⟨vs, hv, ha⟩, -, -⟩ := alD_spec Ws.length Ws (Nat.le_refl _) (by omega)
  rw [csum_csP, h1, ← e2]
  refine h4 _ ?_ (asc_fit (by rw [hv, e1]) e1 ha)
  rw [map_zip_fst _ _ e1]
theorem pw_of {R : Nat → Nat → Prop} (tr : ∀ a b c, R a b → R b c → R a c) : ∀ {W : List Nat}, (∀ j, j + 1 < W.length → R (W.getD j 0) (W.getD (j + 1) 0)) → W.Pairwise R
  | [], _ => List.Pairwise.nil
  | [x], _ => List.pairwise_singleton _ _
  | x :: y :: r, h => by
    have ih : (y :: r).Pairwise R := pw_of tr fun j hj => h (j + 1) (by simpa using hj)
    have hxy : R x y := h 0 (by simp)
    refine List.pairwise_cons.2 ⟨fun z hz => ?_, ih⟩
    rcases List.mem_cons.1 hz with rfl | hz
    · exact hxy
    · exact tr _ _ _ hxy ((List.pairwise_cons.1 ih).1 z hz)
theorem huf_eq {Ws : List Nat} (h2 : 2 ≤ Ws.length) (h : (upB Ws || dnB Ws) = true) : csum Ws (lenH 2 Ws) = alc Ws := by
  refine Nat.le_antisymm (huf_le h2) ?_
  rw [csum_csP]
  rw [Bool.or_eq_true] at h
  rcases h with h | h
  · refine alc_up (lenH_len 2 Ws) (pw_of (R := (· ≤ ·)) (fun a b c h1 h2 => Nat.le_trans h1 h2) fun j hj => ?_) (huf_fit h2)
    unfold upB at h
    exact of_decide_eq_true (List.all_eq_true.1 h j (List.mem_range.2 (by omega)))
  · refine alc_down (by omega) (lenH_len 2 Ws) (pw_of (R := (· ≥ ·)) (fun a b c h1 h2 => Nat.le_trans h2 h1) fun j hj => ?_) (huf_fit h2)
    unfold dnB at h
    exact of_decide_eq_true (List.all_eq_true.1 h j (List.mem_range.2 (by omega)))
set_option maxRecDepth 100000 in
set_option maxHeartbeats 4000000 in
theorem law_huf (w : World) (a : Option Addr) (cap : Nat) (L : List (Bool × ByteArray)) (hL : L.length ≤ maxLen) (hz : ∀ x ∈ L, x.2.size ≤ maxLen) (hS : Sl w a L) (ha : a = none → L = [] ∧ cap = 0) (hc : L.length ≤ cap ∧ cap ≤ maxLen) :
    Calls Try.prog 8 #[.slice a L.length cap] w fun e w' => e = .returned (.bool true) ∧ Below w.heap.size w w' := by
  have HV := Lib.hid (valid_any a cap L hL hz w hS)
  have HAW := Lib.hid (fun W => awake40_any W)
  by_cases hv : vldA L = true
  case neg =>
    have hv' : vldA L = false := by simpa using hv
    rw [hv'] at HV
    clear hv hv' hS ha hz hL hc
    go_enter Try.func8, Try.ntmps8
    go_wp2_with fail
    refine HV.out.mono ?_
    rintro e w1 ⟨rfl, hb1⟩
    go_wp2_with fail
    refine (HAW.out _).mono ?_
    rintro e w2 ⟨rfl, hb2⟩
    go_wp2
    go_ret
    exact ⟨rfl, bstep hb1 hb2⟩
  case pos =>
    rw [hv] at HV
    obtain ⟨Ws, rfl, h2, h6, hck, hz8⟩ := vld_ok hv
    have hzz := VLlt hz8
    obtain ⟨A, rfl⟩ := hS.some (by rw [VL_len]; omega)
    rw [VL_len] at hc HV ⊢
    have HCS := Lib.hid (fun W (h : Below w.heap.size w W) => cost_ok (some A) cap Ws h2 (by omega) hc.1 hc.2 hz8 W (hS.below h))
    have HMO := Lib.hid (fun W (h : Below w.heap.size w W) => mono_ok A cap Ws h2 (by omega) hzz W (hS.below h))
    have HHL := Lib.hid (fun W (h : Below w.heap.size w W) => show Calls Try.prog 38 #[.int .i64 2, .slice (some A) Ws.length cap] W fun e w' => ∃ g c, e = .returned (.tuple #[.slice (some ⟨g, 0, none⟩) Ws.length c, .int .i64 0]) ∧ NSl w' (some ⟨g, 0, none⟩) (inL (lenH 2 Ws)) ∧ Below W.heap.size W w' from by
      have := Lengths_any 2 cap (some A) (VL Ws) (by rw [VL_len]; unfold maxLen; omega) (fun x hx => Nat.le_trans (hz8 x hx) (by decide)) W (hS.below h)
      rw [VL_len] at this
      refine this.mono ?_
      rintro e w' ⟨v, rfl, -, h, hb⟩
      have h0 : lenW 2 (VL Ws) = 0 := by unfold lenW; rw [if_neg (by decide)]; exact hck
      obtain ⟨n, Us, e1, e2, -, -, -, -, g, c, rfl, -, -, hn⟩ := h h0
      obtain rfl : 2 = n := by omega
      obtain rfl := VLinj e2
      rw [h0]
      refine ⟨g, c, by rw [lenH_len], fun i x hi => ⟨_, rfl, ?_⟩, hb⟩
      rw [addr0]
      unfold inL at hi
      rw [List.getElem?_map] at hi
      cases hd : (lenH 2 Ws)[i]? with
      | none => rw [hd] at hi; cases hi
      | some k => rw [hd] at hi; cases hi; exact hn i k hd)
    have HTO := Lib.hid (fun (bb : Option Addr) (cc : Nat) W (h : Below w.heap.size w W) (hn : NSl W bb (inL (lenH 2 Ws))) => total_any (some A) bb cap cc 64 Ws (lenH 2 Ws) (lenH_len 2 Ws) (by omega) hzz (fun d hd => Nat.lt_of_le_of_lt (huf_64 h2 (by omega) d hd) (by decide)) (by decide) W (hS.below h) hn)
    have hal := alc_lt h2 (by omega) hzz
    have hle := huf_le h2
    have heq := huf_eq (Ws := Ws) h2
    rw [lenH_len] at HTO
    obtain ⟨n, hn⟩ : ∃ n, Ws.length = n := ⟨_, rfl⟩
    obtain ⟨C, hC⟩ : ∃ C, alc Ws = C := ⟨_, rfl⟩
    obtain ⟨D, hD⟩ : ∃ D, csum Ws (lenH 2 Ws) = D := ⟨_, rfl⟩
    obtain ⟨F, hF⟩ : ∃ F, (upB Ws || dnB Ws) = F := ⟨_, rfl⟩
    rw [hC] at hal hle heq HCS
    rw [hD] at hle heq HTO
    rw [hF] at heq HMO
    unfold VN at HTO
    have HCM := Lib.hid (fun Y => cCmpN (x := C) (d := D) 136 136 hal (Nat.lt_of_le_of_lt hle hal) (by decide) (by decide) Y)
    obtain ⟨q, hq⟩ : ∃ q, cmpI (C : Int) (D : Int) = q := ⟨_, rfl⟩
    have hq0 : 0 ≤ q := by
      rw [← hq]
      unfold cmpI
      rw [if_neg (by omega)]
      split <;> omega
    have hqF : F = true → q = 0 := fun h => by
      rw [← hq, heq h]
      exact cmpI_eq _
    rw [hq] at HCM
    rw [hn] at HCS HMO HHL HTO HV
    have hnn : ((n : Int) != (n : Int)) = false := by simp
    have h00 : ((0 : Int) != 0) = false := rfl
    rw [hn]
    clear hn hC hD hF hq hal hle heq hck hz8 hzz ha hz hL hc hv h2 h6 hS
    go_enter Try.func8, Try.ntmps8
    go_wp2_with fail
    refine HV.out.mono ?_
    rintro e w1 ⟨rfl, hb1⟩
    have HB1 := Lib.hid hb1
    clear hb1 HV
    go_wp2_with fail
    refine (HCS.out w1 HB1.out).mono ?_
    rintro e w3 ⟨rfl, hb3⟩
    have HP := Lib.hid (BC.new w3 w3.heap.size #[.bool false, .string (mg C)] 37 rfl)
    have HA := Lib.hid (show Below w3.heap.size w3 (w3.alloc (.cells #[.bool false, .string (mg C)] 37)) from (Below.refl _ w3).alloc (Nat.le_refl _) _)
    have HB3 := Lib.hid (bstep (bstep HB1.out hb3) HA.out)
    have HX := Lib.hid (HMO.out _ HB3.out)
    clear hb3 HB1 HCS HMO HA
    go_wp2_with fail
    obtain ⟨B, hB⟩ : ∃ B, w3.heap.size = B := ⟨_, rfl⟩
    rw [hB] at HP ⊢
    clear hB
    refine HX.out.mono ?_
    rintro e w4 ⟨rfl, hb4⟩
    have HB4 := Lib.hid (bstep HB3.out hb4)
    have HP4 := Lib.hid (HP.out.below hb4)
    clear hb4 HX HP HB3
    go_wp2_with fail
    refine (HHL.out w4 HB4.out).mono ?_
    rintro e w5 ⟨g, cl, rfl, hnl, hb5⟩
    have HB5 := Lib.hid (bstep HB4.out hb5)
    have HP5 := Lib.hid (HP4.out.below hb5)
    have HNL := Lib.hid hnl
    have HTL := Lib.hid (fun Y (h : Below w5.heap.size w5 Y) => HTO.out (some ⟨g, 0, none⟩) cl Y (bstep HB5.out h) (HNL.out.below h))
    clear hb5 hnl HP4 HB4 HTO HHL
    go_wp2_with fail
    haveI := cls_some w5
    have fq : ∀ u : Cl w5, u.x.cell? ⟨B, 0, none⟩ = some (.bool false) := fun u => (HP5.out.below u.h).at 0 _ rfl
    have fr : ∀ u : Cl w5, u.x.cell? ⟨B, 1, none⟩ = some (.string (mg C)) := fun u => (HP5.out.below u.h).at 1 _ rfl
    refine wp_region_cls (by kernel_rfl) ?_
    iterate 3 (go_big_quiet_step (fail))
    go_big_quiet_step ((go_at_call 19; exact quiet_clsB (Below.refl _ _) HTL.out _))
    go_big_quiet_step ((go_at_call 20; exact quiet_cls HCM.out _))
    iterate 1 (go_big_quiet_step (fail))
    refine wpQuiet_nil ?_
    intro w6 hw6
    obtain ⟨u6, rfl⟩ := hw6
    have HB6 := Lib.hid (bstep HB5.out u6.h)
    cases F with
    | true =>
      obtain rfl := hqF rfl
      go_wp2_with fail
      refine (HAW.out _).mono ?_
      rintro e w7 ⟨rfl, hb7⟩
      go_wp2
      go_ret
      exact ⟨rfl, bstep HB6.out hb7⟩
    | false =>
      clear hqF
      go_wp2_with fail
      refine (HAW.out _).mono ?_
      rintro e w7 ⟨rfl, hb7⟩
      go_wp2
      go_ret
      exact ⟨rfl, bstep HB6.out hb7⟩
end Go.Proofs.Gv
