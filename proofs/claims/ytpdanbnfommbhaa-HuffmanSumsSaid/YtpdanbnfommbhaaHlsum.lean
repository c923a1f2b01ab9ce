/- HuffmanSums: the walk of the law. -/
import Derived.Test.YtpdanbnfommbhaaHnat
import Derived.Test.YtpdanbnfommbhaaHawk
import Derived.Test.YtpdanbnfommbhaaFront
set_option linter.unusedSimpArgs false
set_option linter.unusedVariables false
namespace Go.Proofs.Gv
open Go Go.RowKit Go.Maps

theorem lenW_two (L : List (Bool × ByteArray)) : lenW 2 L = chkW L := by unfold lenW; rw [if_neg (by decide)]
theorem grS_false {L : List (Bool × ByteArray)} (h : grS L = false) : (∀ x ∈ L, x.2.size ≤ 8) ∧ L.length ≤ 67 := by
  unfold grS at h
  simp only [Bool.or_eq_false_iff, Bool.and_eq_false_iff, decide_eq_false_iff_not] at h
  obtain ⟨h1, h2, h3⟩ := h
  refine ⟨fun x hx => ?_, by omega⟩
  unfold grB at h1
  rw [List.any_eq_false] at h1
  have := h1 x hx
  simpa using this
theorem VL_lt {Ws : List Nat} (h : ∀ x ∈ VL Ws, x.2.size ≤ 8) : ∀ z ∈ Ws, z < 2 ^ 64 := fun z hz =>
  mg_lt (h (false, mg z) (List.mem_map.2 ⟨z, hz, rfl⟩)) (by omega)
theorem node_le {Ws S : List Nat} {i k v N : Nat} (h1 : ∀ z ∈ Ws, z < 2 ^ N) (h2 : ∀ z ∈ S, z < 2 ^ N) (h : (Ws ++ S.take i)[k]? = some v) : v < 2 ^ N := by
  rcases List.mem_append.1 (List.mem_of_getElem? h) with h | h
  · exact h1 v h
  · exact h2 v (List.mem_of_mem_take h)
theorem le_sum_of {S : List Nat} {z : Nat} (h : z ∈ S) : z ≤ S.sum := le_sum h
theorem lenH_pos {q : Nat} (hq : 2 ≤ q) {W : List Nat} (h2 : 2 ≤ W.length) : ∀ d ∈ lenH q W, 1 ≤ d := by
  intro d hd
  have hm := merges_ms (q := q) hq (Ws := W) (by omega)
  obtain ⟨-, -, -, a4⟩ := hm.sums hq (List.replicate ((startL q W).length + (mergesH q W).length) 0) (by rw [List.length_replicate]; exact Nat.le_refl _) (rep_zero _)
  obtain ⟨i, hi⟩ := List.getElem?_of_mem hd
  have hil : i < W.length := by have := (List.getElem?_eq_some_iff.1 hi).1; rwa [lenH_len] at this
  rw [lenH_at hil] at hi
  have e : (depH q W).getD i 0 = d := Option.some.inj hi
  rw [← e]
  exact a4 (by rw [startL_cf, startL_len]; omega) i W[i] (startL_at (List.getElem?_eq_getElem hil))
set_option maxRecDepth 100000 in
set_option maxHeartbeats 4000000 in
theorem law_sums (w : World) (a : Option Addr) (cap : Nat) (L : List (Bool × ByteArray)) (hL : L.length ≤ maxLen) (hz : ∀ x ∈ L, x.2.size ≤ maxLen) (hSl : Sl w a L) (ha : a = none → L = [] ∧ cap = 0) :
    Calls Try.prog 3 #[.slice a L.length cap] w fun e w' => e = .returned (.bool true) ∧ Below w.heap.size w w' := by
  have HGRE := Lib.hid (greatS_any a cap L w hL hz hSl)
  have HS := Lib.hid hSl
  have HLM := Lib.hid hL
  have HAN := Lib.hid ha
  clear hSl hL hz ha
  by_cases hg : grS L = true
  · rw [hg] at HGRE
    clear hg
    go_enter Try.func3, Try.ntmps3
    go_wp2_with fail
    refine HGRE.out.mono ?_
    rintro e w1 ⟨rfl, rfl⟩
    go_wp2_with fail
    refine (awake_any _).mono ?_
    rintro e w2 ⟨rfl, hb⟩
    go_wp2
    go_ret
    exact ⟨rfl, hb⟩
  have hg0 : grS L = false := by simpa using hg
  rw [hg0] at HGRE
  obtain ⟨hz8, h67⟩ := grS_false hg0
  have HZ8 := Lib.hid hz8
  have HMR := Lib.hid (Merges_any cap a L HLM.out (fun x hx => Nat.le_trans (hz8 x hx) (by decide)) w HS.out)
  have HLN := Lib.hid (fun W (hb : Below w.heap.size w W) => Lengths_any 2 cap a L HLM.out (fun x hx => Nat.le_trans (HZ8.out x hx) (by decide)) W (HS.out.below hb))
  rw [lenW_two] at HLN
  obtain ⟨E, hE⟩ : ∃ E, chkW L = E := ⟨_, rfl⟩
  rw [hE] at HMR HLN
  have HE := Lib.hid hE
  clear hg hg0 hz8 hE
  by_cases h0 : ¬ E = 0
  · have hne : (E != 0) = true := by simpa using h0
    have hne2 : (E == 0) = false := by simpa using h0
    have hee : (E == E) = true := by simp
    have HNE := Lib.hid h0
    clear h0
    go_enter Try.func3, Try.ntmps3
    go_wp2_with fail
    refine HGRE.out.mono ?_
    rintro e w1 ⟨rfl, rfl⟩
    go_wp2_with fail
    refine HMR.out.mono ?_
    rintro e w2 ⟨⟨v2, rfl, -, -⟩, hb2⟩
    have HB2 := Lib.hid hb2
    have HL2 := Lib.hid (HLN.out w2 hb2)
    clear hb2
    go_wp2_with fail
    refine HL2.out.mono ?_
    rintro e w3 ⟨v3, rfl, -, -, hb3⟩
    have HB3 := Lib.hid (bstep HB2.out hb3)
    clear hb3 HL2
    go_wp2_with fail
    refine (awake_any _).mono ?_
    rintro e w4 ⟨rfl, hb4⟩
    have HB4 := Lib.hid (bstep HB3.out hb4)
    clear hb4
    go_wp2
    go_ret
    exact ⟨rfl, HB4.out⟩
  have h0 := Decidable.not_not.1 h0
  subst h0
  obtain ⟨g2, g64, Ws, hWs⟩ := chkW_ok HE.out
  obtain rfl : L = VL Ws := hWs
  rw [VL_len] at g2 g64 h67 HGRE HMR HLN ⊢
  have HWZ := Lib.hid (VL_lt HZ8.out)
  have hsum : (mergesH 2 Ws).map sumW = (mergesH 2 Ws).map sumW := rfl
  obtain ⟨sp1, -, sp3, -, -, sp6⟩ := lenH_spec (q := 2) (Nat.le_refl 2) (W := Ws) (by omega)
  have hml : (mergesH 2 Ws).length ≤ 63 := by
    have h1 := startL_len 2 Ws
    have h2 : padT 2 Ws.length = 0 := by unfold padT; rw [Nat.mod_one]
    omega
  have hcs : csum Ws (lenH 2 Ws) < 2 ^ 200 := by
    refine Nat.lt_of_lt_of_le (csum_lt (N := 64) (lenH_len 2 Ws) HWZ.out (fun d hd => Nat.lt_of_le_of_lt (sp3 d hd) (by omega)) (by omega)) (Nat.pow_le_pow_right (by decide) (by decide))
  have HSM := Lib.hid (show csum Ws (lenH 2 Ws) = ((mergesH 2 Ws).map sumW).sum from sp1)
  have HMA := Lib.hid (fun i x y h => merges_at (Ws := Ws) (by omega) (i := i) (x := x) (y := y) h)
  have HTW := Lib.hid (fun ns (h : ns ∈ mergesH 2 Ws) => ms_two (by omega) h)
  have HCO := Lib.hid (fun (v : Value) (W : World) (hS : Sl W a (VL Ws)) (hv : RowAt W v (intsV ((lenH 2 Ws).map fun (k : Nat) => (k : Int)))) =>
    Cost_any cap a (VL Ws) v ((lenH 2 Ws).map fun (k : Nat) => (k : Int)) HLM.out (by rw [List.length_map, lenH_len]; unfold maxLen; omega) (fun x hx => Nat.le_trans (HZ8.out x hx) (by decide)) W hS hv)
  have hce : costE (VL Ws) ((lenH 2 Ws).map fun (k : Nat) => (k : Int)) = 0 := by
    unfold costE
    rw [if_neg (by rw [HE.out]; simp), if_neg (by rw [List.length_map, lenH_len, VL_len]; simp), if_neg]
    simp only [Bool.not_eq_true, List.any_eq_false, List.mem_map]
    rintro _ ⟨d, hd, rfl⟩
    have h1 := sp3 d hd
    have h2 : 1 ≤ d := lenH_pos (Nat.le_refl 2) g2 d hd
    simp [badL]; omega
  rw [hce, VL_len] at HCO
  have HCL := Lib.hid (fun W (hS : Sl W a (VL Ws)) => clone_any a cap (VL Ws) (by rw [VL_len]; omega) HAN.out W hS)
  rw [VL_len] at HCL
  obtain ⟨ms, hms⟩ : ∃ ms, mergesH 2 Ws = ms := ⟨_, rfl⟩
  obtain ⟨ds, hds⟩ : ∃ ds, lenH 2 Ws = ds := ⟨_, rfl⟩
  rw [hms] at HSM HMA HTW hml
  rw [hds] at HSM HCO hcs
  obtain ⟨S, hS⟩ : ∃ S, ms.map sumW = S := ⟨_, rfl⟩
  rw [hS] at HSM
  have HSI := Lib.hid hS
  have hSl : S.length = ms.length := by rw [← hS, List.length_map]
  rw [HSM.out] at hcs
  have HCS := Lib.hid hcs
  have HSL := Lib.hid hSl
  have hpl : (pairsOf ms).length = ms.length := by unfold pairsOf; rw [List.length_map]
  have HPL := Lib.hid hpl
  have HMSD := Lib.hid (show mergesH 2 Ws = ms ∧ lenH 2 Ws = ds from ⟨hms, hds⟩)
  clear hsum sp1 sp3 sp6 hms hds hS hSl hcs hpl hce
  obtain ⟨i0, hi0, hz0, hz1, hz2⟩ := info_parts infoI
  go_enter Try.func3, Try.ntmps3
  go_wp2_with fail
  refine HGRE.out.mono ?_
  rintro e w1 ⟨rfl, rfl⟩
  go_wp2_with fail
  refine HMR.out.mono ?_
  rintro e w2 ⟨⟨v2, rfl, -, hm2⟩, hb2⟩
  obtain ⟨Ws', eW, -, -, hm2⟩ := hm2 trivial
  obtain rfl := VL_inj eW
  rw [HMSD.out.1] at hm2
  have HB2 := Lib.hid hb2
  have HM2 := Lib.hid hm2
  have HL2 := Lib.hid (HLN.out w2 hb2)
  clear hb2 hm2 eW
  go_wp2_with fail
  refine HL2.out.mono ?_
  rintro e w3 ⟨v3, rfl, -, hl3, hb3⟩
  obtain ⟨n', Ws', e1, eW, -, -, -, -, hl3⟩ := hl3 trivial
  obtain rfl : 2 = n' := by omega
  obtain rfl := VL_inj eW
  rw [HMSD.out.2] at hl3
  have HB3 := Lib.hid (bstep HB2.out hb3)
  have HM3 := Lib.hid (HM2.out.below hb3)
  have hr3 := hl3.rowAt
  rw [natV_ints] at hr3
  have HC3 := Lib.hid (HCO.out v3 w3 (HS.out.below HB3.out) hr3)
  clear hb3 HL2 hl3 e1 eW hr3
  go_wp2_with fail
  refine HC3.out.mono ?_
  rintro e w4 ⟨⟨z, rfl, -, hz4⟩, hb4⟩
  obtain ⟨Ws', ds', eW, eD, -, -, -, -, rfl⟩ := hz4 trivial
  obtain rfl := VL_inj eW
  obtain rfl : ds = ds' := by
    have := congrArg (List.map Int.toNat) eD
    rw [List.map_map, List.map_map] at this
    have hid : ∀ l : List Nat, l.map (Int.toNat ∘ fun (k : Nat) => (k : Int)) = l := fun l => (List.map_congr_left fun x _ => Int.toNat_natCast x).trans (List.map_id l)
    rwa [hid, hid] at this
  rw [HSM.out]
  have HB4 := Lib.hid (bstep HB3.out hb4)
  have HM4 := Lib.hid (HM3.out.below hb4)
  clear hb4 hz4 eW eD HC3
  unfold VN
  have HB4a := Lib.hid (HB4.out.alloc HB4.out.size (.cells #[.bool false, .string (mg S.sum)] 33))
  have HM4a := Lib.hid (HM4.out.below ((Below.refl w4.heap.size w4).alloc (Nat.le_refl _) (.cells #[.bool false, .string (mg S.sum)] 33)))
  have HP7 := Lib.hid (BC.new w4 w4.heap.size #[.bool false, .string (mg S.sum)] 33 rfl)
  obtain ⟨B7, hB7⟩ : ∃ B, w4.heap.size = B := ⟨_, rfl⟩
  obtain ⟨W4, hW4⟩ : ∃ W, w4.alloc (.cells #[.bool false, .string (mg S.sum)] 33) = W := ⟨_, rfl⟩
  go_wp2_with fail
  rw [hB7, hW4] at HP7
  rw [hW4] at HB4a HM4a
  have HB7L := Lib.hid (show w1.heap.size ≤ B7 from by rw [← hB7]; exact HB4.out.size)
  clear hB7 hW4
  refine (HCL.out W4 (HS.out.below HB4a.out)).mono ?_
  rintro e w5 ⟨v9, rfl, hrow, hg5⟩
  have HR5 := Lib.hid hrow
  have HG5 := Lib.hid hg5
  clear hrow hg5 HB4 HM4
  go_wp2_with fail
  refine (cOfN 0 (by decide) _).mono ?_
  rintro e w6 ⟨rfl, hb6⟩
  have HR6 := Lib.hid (own_grown HR5.out (Below.grows hb6) (by simp))
  have HG6 := Lib.hid (HG5.out.andThen (Below.grows hb6) (fun k e => by cases e))
  clear hb6 HR5 HG5
  have HP10 := Lib.hid (BC.new w6 w6.heap.size #[.bool false, .string (mg 0)] 33 rfl)
  have HR7 := Lib.hid (HR6.out.alloc (.cells #[.bool false, .string (mg 0)] 33))
  have HG7 := Lib.hid (HG6.out.andThen (World.grownBy_alloc w6 (.cells #[.bool false, .string (mg 0)] 33) none) (fun k e => by cases e))
  have HNE7 := Lib.hid (show v9.ownBlock ≠ some w6.heap.size from fun e => by have := (own_base HR6.out e).2; omega)
  have HB10 := Lib.hid (show W4.heap.size ≤ w6.heap.size from HG6.out.size)
  obtain ⟨B10, hB10⟩ : ∃ B, w6.heap.size = B := ⟨_, rfl⟩
  obtain ⟨W7, hW7⟩ : ∃ W, w6.alloc (.cells #[.bool false, .string (mg 0)] 33) = W := ⟨_, rfl⟩
  rw [hW7, hB10] at HP10
  rw [hW7] at HR7 HG7
  rw [hB10] at HNE7 HB10
  obtain ⟨ad, cm, rfl, hat⟩ := HM4a.out
  rw [HPL.out]
  have HAT := Lib.hid hat
  clear HR6 HG6 hat HM4a
  go_wp2_with fail
  clear hB10 hW7
  go_loopg [9, 50] (ms.length + 1) (fun gg x9 x50 wr => ∃ i : Nat, x50 = .int .i64 (i : Int) ∧ i ≤ ms.length ∧ ms.length - i < gg ∧ W4.grownBy wr none ∧ wr.ownsRow W4.heap.size 33 2 x9 (Ws.length + i) (inV (VL (Ws ++ S.take i))) ∧ BC wr B10 [.bool false, .string (mg (S.take i).sum)] ∧ x9.ownBlock ≠ some B10)
  case atStart => exact ⟨0, rfl, Nat.zero_le _, by omega, HG7.out, by have := HR7.out; simpa using this, HP10.out, HNE7.out⟩
  case round =>
    obtain ⟨i, rfl, hi, hig, hgw, hown, hbc, hne⟩ := hrel
    have HGG := Lib.hid hig
    have HGW := Lib.hid hgw
    have HO := Lib.hid hown
    have HBC := Lib.hid hbc
    have HNE := Lib.hid hne
    clear hig hgw hown hbc hne HR7 HG7 HP10 HNE7
    by_cases hlt : i < ms.length
    · have hltI : (i : Int) < ms.length := by omega
      obtain ⟨ns, hns⟩ : ∃ ns, ms[i]? = some ns := ⟨ms[i], List.getElem?_eq_getElem hlt⟩
      obtain ⟨⟨x, wx⟩, ⟨y, wy⟩, rfl⟩ := HTW.out ns (List.mem_of_getElem? hns)
      obtain ⟨hx, hy⟩ := HMA.out i _ _ hns
      have hps : (pairsOf ms)[i]? = some ((x : Int), (y : Int)) := by unfold pairsOf; rw [List.getElem?_map, hns]; rfl
      obtain ⟨q1, q2⟩ := mrgV_at _ i _ hps
      obtain ⟨gm, rfl, hc0⟩ := HAT.out _ _ q1
      obtain ⟨gm', e1, hc1⟩ := HAT.out _ _ q2
      cases e1
      have hbb := grown_below HGW.out
      have c0 := (hbb.cell (p := ⟨gm, i * 2, none⟩) (World.block_lt_of_cell? W4 _ hc0)).trans hc0
      have c1 := (hbb.cell (p := ⟨gm, i * 2 + 1, none⟩) (World.block_lt_of_cell? W4 _ hc1)).trans hc1
      simp only at c0 c1
      have hSi : S[i]? = some (wx + wy) := by rw [← HSI.out, List.getElem?_map, hns]; simp [sumW]
      rw [List.map_take, HSI.out] at hx hy
      have hxl := (List.getElem?_eq_some_iff.1 hx).1
      have hyl := (List.getElem?_eq_some_iff.1 hy).1
      rw [List.length_append, List.length_take, HSL.out] at hxl hyl
      have HVX := Lib.hid (node_le (N := 200) (fun z hz => Nat.lt_of_lt_of_le (HWZ.out z hz) (Nat.pow_le_pow_right (by decide) (by decide))) (fun z hz => Nat.lt_of_le_of_lt (le_sum_of hz) HCS.out) hx)
      have HVY := Lib.hid (node_le (N := 200) (fun z hz => Nat.lt_of_lt_of_le (HWZ.out z hz) (Nat.pow_le_pow_right (by decide) (by decide))) (fun z hz => Nat.lt_of_le_of_lt (le_sum_of hz) HCS.out) hy)
      have HST := Lib.hid (show (S.take i).sum < 2 ^ 200 from Nat.lt_of_le_of_lt (take_sum_le S i) HCS.out)
      have HSX := Lib.hid (show (S.take (i + 1)).sum = (S.take i).sum + (wx + wy) from take_sum_succ hSi)
      have HVS := Lib.hid (show wx + wy < 2 ^ 200 from Nat.lt_of_le_of_lt (le_sum_of (List.mem_of_getElem? hSi)) HCS.out)
      have HRX := Lib.hid (show inV (VL (Ws ++ S.take (i + 1))) = inV (VL (Ws ++ S.take i)) ++ [.bool false, .string (mg (wx + wy))] from by rw [List.take_add_one, hSi, ← List.append_assoc]; exact inV_VL_snoc _ _)
      have hxn : x < Ws.length + i := by omega
      have hyn : y < Ws.length + i := by omega
      obtain ⟨g9, cap9, rfl, hg9, hl9⟩ := HO.out.form (by omega)
      obtain ⟨-, -, hcap9, hcells⟩ := own_form HO.out
      obtain ⟨p1, p2⟩ := inV_VL_at hx
      obtain ⟨p3, p4⟩ := inV_VL_at hy
      have d0 := hcells _ _ p1
      have d1 := hcells _ _ p2
      have d2 := hcells _ _ p3
      have d3 := hcells _ _ p4
      have hab : Below wr.heap.size wr (wr.alloc (.cells #[.int .i64 (x : Int), .int .i64 (y : Int)] 39)) := (Below.refl _ wr).alloc (Nat.le_refl _) _
      have e0 := (hab.cell (p := ⟨g9, x * 2, none⟩) hl9).trans d0
      have e1 := (hab.cell (p := ⟨g9, x * 2 + 1, none⟩) hl9).trans d1
      have e2 := (hab.cell (p := ⟨g9, y * 2, none⟩) hl9).trans d2
      have e3 := (hab.cell (p := ⟨g9, y * 2 + 1, none⟩) hl9).trans d3
      have HE := Lib.hid (show _ ∧ _ ∧ _ ∧ _ from ⟨e0, e1, e2, e3⟩)
      have HPM := Lib.hid (BC.new wr wr.heap.size #[.int .i64 (x : Int), .int .i64 (y : Int)] 39 rfl)
      have HAB := Lib.hid hab
      have HL9 := Lib.hid hl9
      have hxI : (x : Int) < (Ws.length : Int) + i := by omega
      have hyI : (y : Int) < (Ws.length : Int) + i := by omega
      have hxF : decide ((Ws.length : Int) + i ≤ x) = false := by simp; omega
      have hyF : decide ((Ws.length : Int) + i ≤ y) = false := by simp; omega
      clear d0 d1 d2 d3 e0 e1 e2 e3 hab hns hx hy hps q1 q2 hc0 hc1 hbb hSi hxl hyl hcells p1 p2 p3 p4 hl9
      go_wp2_with fail
      obtain ⟨Wa, hWa⟩ : ∃ W, wr.alloc (.cells #[.int .i64 (x : Int), .int .i64 (y : Int)] 39) = W := ⟨_, rfl⟩
      rw [hWa] at HE HPM HAB ⊢
      obtain ⟨B12, hB12⟩ : ∃ B, wr.heap.size = B := ⟨_, rfl⟩
      rw [hB12] at HPM ⊢
      clear hWa hB12
      refine wp_region_front 13 zvI (by kernel_rfl) shI (by kernel_rfl) (by kernel_rfl) (zvI_alloc _ (by kernel_rfl)) (shI_store _ (by kernel_rfl)) ?_
      intro mm BW hm1 hm2 hBW
      haveI := clm_some mm BW
      have f0 := fun u : Clm mm BW => u.cell hm1 hBW (HPM.out.at 0 _ rfl)
      have f1 := fun u : Clm mm BW => u.cell hm1 hBW (HPM.out.at 1 _ rfl)
      have f2 := fun u : Clm mm BW => u.cell hm1 hBW HE.out.1
      have f3 := fun u : Clm mm BW => u.cell hm1 hBW HE.out.2.1
      have f4 := fun u : Clm mm BW => u.cell hm1 hBW HE.out.2.2.1
      have f5 := fun u : Clm mm BW => u.cell hm1 hBW HE.out.2.2.2
      simp only [frontOf, unmade, List.take_succ_cons, List.take_zero, List.map_cons, List.map_nil]
      iterate 10 (go_big_quiet_step (fail))
      go_big_quiet_step ((go_at_call 15; exact quiet_clm hm2 (cAddN 200 200 HVX.out HVY.out (by decide) (by decide)) _))
      iterate 2 (go_big_quiet_step (fail))
      refine wpQuiet_nil ?_
      refine ⟨List.forall_mem_cons.2 ⟨by kernel_rfl, List.forall_mem_nil _⟩, ?_⟩
      intro γ w9 hb hF
      clear hBW this hm1 hm2 f0 f1 f2 f3 f4 f5
      clear BW mm
      simp only [madesFrom, Facts, patch, List.take_succ_cons, List.take_zero, List.drop_succ_cons, List.drop_zero, Nat.zero_add, Nat.reduceAdd, List.mem_cons, List.not_mem_nil, or_false, forall_eq, forall_eq_or_imp, false_imp_iff, implies_true, and_true] at hF ⊢
      obtain ⟨hp, hl, hk⟩ := hF
      obtain ⟨B13, hG⟩ : ∃ B, γ 11 = B := ⟨_, rfl⟩
      rw [hG] at hp hl hk ⊢
      clear hG γ
      have HP13 := Lib.hid (show BC w9 B13 [.bool false, .string (mg (wx + wy))] from BC.of hk)
      have HG9 := Lib.hid (show wr.grownBy w9 none from (Below.grows (HAB.out)).andThen (Below.grows hb) (fun k e => by cases e))
      have HB13 := Lib.hid (show wr.heap.size ≤ B13 from Nat.le_trans HAB.out.size hp)
      clear hb hp hl hk HE HAB HPM
      try go_frame
      have q0 := HP13.out.at 0 _ rfl
      have q1 := HP13.out.at 1 _ rfl
      have HO9 := Lib.hid (own_grown HO.out HG9.out (by simp))
      have HNG := Lib.hid (show ¬ g9 = B10 from fun e => HNE.out (by rw [e]; rfl))
      have HW9 := Lib.hid (show W4.heap.size ≤ w9.heap.size ∧ B10 < w9.heap.size ∧ wr.heap.size ≤ w9.heap.size from ⟨Nat.le_trans HGW.out.size HG9.out.size, Nat.lt_of_lt_of_le HBC.out.lt HG9.out.size, HG9.out.size⟩)
      go_wp2_with (at_builtin; refine wpList_append_own_at _ rfl _ _ 22 rfl W4.heap.size 33 i0 (.agg #[.bool false, .string ⟨#[]⟩]) 2 24 Try.underlying22 hi0 hz0 hz1 hz2 rfl (by decide) (.slice (some ⟨g9, 0, none⟩) (Ws.length + i) cap9) (Ws.length + i) (inV (VL (Ws ++ S.take i))) rfl (HO9.out.alloc (.cells #[.bool false, .string (mg (wx + wy))] 33)) ⟨w9.heap.size, 0, none⟩ 1 1 [.bool false, .string (mg (wx + wy))] rfl rfl (World.news_of_block (cs := #[.bool false, .string (mg (wx + wy))]) (t := 33) (fr := (0, 0)) (heap_alloc_new w9 _)) (by simp [Value.oneCell']) (by unfold maxLen; omega) (by omega) (by have := HW9.out.1; simp; omega) ?_; intro v' w10 hown2 hgrow2 _ hat2; have HG10 := Lib.hid ((World.grownBy_alloc w9 (.cells #[.bool false, .string (mg (wx + wy))] 33) (some g9)).andThen hgrow2 (fun k e => .inr e)); have HT10 := Lib.hid (show BC w10 B10 [.bool false, .string (mg (S.take i).sum)] from (HBC.out.grown HG9.out (by simp)).grown HG10.out (by simpa using fun e => HNG.out e.symm)); have HT13 := Lib.hid (show BC w10 B13 [.bool false, .string (mg (wx + wy))] from HP13.out.grown HG10.out (by have := HB13.out; have := HL9.out; simp; omega)); have y0 := HT10.out.at 0 _ rfl; have y1 := HT10.out.at 1 _ rfl; have y2 := HT13.out.at 0 _ rfl; have y3 := HT13.out.at 1 _ rfl; have HO10 := Lib.hid hown2; have HAT10 := Lib.hid hat2; clear hown2 hgrow2 hat2 q0 q1)
      refine (cAddN 200 200 HST.out HVS.out (by decide) (by decide) _).mono ?_
      rintro e w11 ⟨rfl, hb11⟩
      have HT11 := Lib.hid (HT10.out.below hb11)
      have HO11 := Lib.hid (own_grown HO10.out (Below.grows hb11) (by simp))
      have HGA := Lib.hid ((((HGW.out.andThen HG9.out (fun k e => by cases e)).andThen HG10.out (fun k e => .inl (by cases e; exact hg9)))).andThen (Below.grows hb11) (fun k e => by cases e))
      have HNB := Lib.hid (show v'.ownBlock ≠ some B10 from fun e => by
        rcases HAT10.out with h | h
        · rw [h] at e; exact HNG.out (by simpa [Value.ownBlock] using e)
        · rw [h] at e; have := HW9.out.2.1; simp at e; omega)
      clear hb11 y0 y1 y2 y3
      have z0 := HT11.out.at 0 _ rfl
      have z1 := HT11.out.at 1 _ rfl
      have z2 := HT11.out.z 0 (by simp)
      have z3 := HT11.out.z 1 (by simp)
      go_wp2_with fail
      go_roundg (ms.length - i)
      case rel =>
        refine ⟨i + 1, by go_num, by omega, by omega, ?_, ?_, ?_, ?_⟩
        · exact (HGA.out.andThen (gSet w11 ⟨B10, 0, none⟩ _) (fun k e => .inl (by cases e; exact HB10.out))).andThen (gSet _ ⟨B10, 1, none⟩ _) (fun k e => .inl (by cases e; exact HB10.out))
        · rw [HRX.out]
          exact own_grown (own_grown HO11.out (gSet w11 ⟨B10, 0, none⟩ _) (fun g e => by rw [e] at HNB; exact fun h => HNB.out h.symm)) (gSet _ ⟨B10, 1, none⟩ _) (fun g e => by rw [e] at HNB; exact fun h => HNB.out h.symm)
        · rw [HSX.out]
          exact HT11.out.set2 0 1 (.bool false) (.string (mg ((S.take i).sum + (wx + wy)))) (by simp) (by simp)
        · exact HNB.out
      case measure => have := HGG.out; omega
    · obtain rfl : i = ms.length := by omega
      have hB : decide ((ms.length : Int) < ms.length) = false := by simp
      have HT := Lib.hid (show (S.take ms.length).sum = S.sum from by rw [← HSL.out, List.take_length])
      rw [HT.out] at HBC
      have x0 := HBC.out.at 0 _ rfl
      have x1 := HBC.out.at 1 _ rfl
      have HP7r := Lib.hid (HP7.out.grown HGW.out (by simp))
      have x2 := HP7r.out.at 0 _ rfl
      have x3 := HP7r.out.at 1 _ rfl
      have heq : eqI false (mg S.sum) false (mg S.sum) = true := eqI_iff.2 ⟨rfl, rfl⟩
      go_wp2_with fail
      refine (awake_any _).mono ?_
      rintro e w12 ⟨rfl, hb12⟩
      have HE := Lib.hid (bstep ((HB4a.out).grown HGW.out HB4a.out.size (fun k e => by cases e)) hb12)
      clear hb12 x0 x1 x2 x3
      go_wp2
      go_ret
      exact ⟨rfl, HE.out⟩
end Go.Proofs.Gv
