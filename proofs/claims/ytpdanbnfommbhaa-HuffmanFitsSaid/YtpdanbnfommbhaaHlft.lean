/- HuffmanFits: the walk of the law. -/
import Derived.Test.YtpdanbnfommbhaaHfit
set_option linter.unusedSimpArgs false
set_option linter.unusedVariables false
namespace Go.Proofs.Gv
open Go Go.RowKit Go.Maps

theorem fold_min_ge {m : Int} : ∀ (zs : List Int) (a : Int), m ≤ a → (∀ z ∈ zs, m ≤ z) → m ≤ zs.foldl min a
  | [], a, h, _ => h
  | z :: r, a, h, hz => fold_min_ge r (min a z) (by have := hz z List.mem_cons_self; omega) fun y hy => hz y (List.mem_cons_of_mem _ hy)
theorem fold_max_le {m : Int} : ∀ (zs : List Int) (a : Int), a ≤ m → (∀ z ∈ zs, z ≤ m) → zs.foldl max a ≤ m
  | [], a, h, _ => h
  | z :: r, a, h, hz => fold_max_le r (max a z) (by have := hz z List.mem_cons_self; omega) fun y hy => hz y (List.mem_cons_of_mem _ hy)
theorem min_ge {m : Int} {zs : List Int} (h0 : 0 < zs.length) (h : ∀ z ∈ zs, m ≤ z) : m ≤ Lib.minOf zs := by
  cases zs with
  | nil => simp at h0
  | cons z r => exact fold_min_ge _ _ (h z List.mem_cons_self) h
theorem max_le {m : Int} {zs : List Int} (h0 : 0 < zs.length) (h : ∀ z ∈ zs, z ≤ m) : Lib.maxOf zs ≤ m := by
  cases zs with
  | nil => simp at h0
  | cons z r => exact fold_max_le _ _ (h z List.mem_cons_self) h
theorem NR.ints {W : World} {g : Nat} {ds : List Nat} (h : NR W g ds) : ∀ j, j < (ds.map fun (k : Nat) => (k : Int)).length → W.cell? ⟨g, 0 + j, none⟩ = some (.int .i64 ((ds.map fun (k : Nat) => (k : Int)).getD j 0)) := fun j hj => by
  rw [List.length_map] at hj
  rw [Nat.zero_add, h.at_ j ds[j] (List.getElem?_eq_getElem hj), List.getD_eq_getElem?_getD, List.getElem?_map, List.getElem?_eq_getElem hj]
  rfl
theorem min_any {g c n : Nat} {ds : List Nat} (hn : ds.length = n) (h0 : 0 < n) (hl : n ≤ 1000) (h1 : ∀ d ∈ ds, 1 ≤ d) (W : World) (h : NR W g ds) :
    Calls Try.prog 24 #[.slice (some ⟨g, 0, none⟩) n c] W fun e w' => (∃ z : Int, 1 ≤ z ∧ e = .returned (.int .i64 z)) ∧ w' = W := by
  subst hn
  refine (Try.slices_Min_int g 0 ds.length c (ds.map fun (k : Nat) => (k : Int)) W h0 (by rw [List.length_map]; exact Nat.le_refl _) (by omega) h.ints).mono ?_
  rintro e w' ⟨rfl, rfl⟩
  refine ⟨⟨_, min_ge (by rw [List.length_take, List.length_map]; omega) (fun z hz => ?_), rfl⟩, rfl⟩
  obtain ⟨d, hd, rfl⟩ := List.mem_map.1 (List.mem_of_mem_take hz)
  have := h1 d hd
  omega
theorem max_any {g c n : Nat} {ds : List Nat} (hn : ds.length = n) (h0 : 0 < n) (hl : n ≤ 1000) (h1 : ∀ d ∈ ds, d ≤ 64) (W : World) (h : NR W g ds) :
    Calls Try.prog 25 #[.slice (some ⟨g, 0, none⟩) n c] W fun e w' => (∃ z : Int, z ≤ 64 ∧ e = .returned (.int .i64 z)) ∧ w' = W := by
  subst hn
  refine (Try.slices_Max_int g 0 ds.length c (ds.map fun (k : Nat) => (k : Int)) W h0 (by rw [List.length_map]; exact Nat.le_refl _) (by omega) h.ints).mono ?_
  rintro e w' ⟨rfl, rfl⟩
  refine ⟨⟨_, max_le (by rw [List.length_take, List.length_map]; omega) (fun z hz => ?_), rfl⟩, rfl⟩
  obtain ⟨d, hd, rfl⟩ := List.mem_map.1 (List.mem_of_mem_take hz)
  have := h1 d hd
  omega
theorem pws_kr (q : Nat) {Ws ds : List Nat} (h : ds.length = Ws.length) : (pws q ds).sum = kr q 64 (Ws.zip ds) := by
  unfold pws kr
  have : ds = (Ws.zip ds).map (·.2) := (List.map_snd_zip (by omega)).symm
  conv => lhs; rw [this]
  rw [List.map_map]
  rfl
theorem fits_own {k : Nat} (hk : 2 ≤ k) {Ws : List Nat} (h2 : 2 ≤ Ws.length) (h64 : Ws.length ≤ 64) : (pws k (lenH k Ws)).sum ≤ k ^ 64 ∧ (k = 2 → (pws k (lenH k Ws)).sum = k ^ 64) := by
  have hm := merges_lt hk h2
  have := (lenH_spec hk (W := Ws) (by omega)).2.1 64 (by omega)
  rw [pws_kr k (lenH_len k Ws)]
  refine ⟨this.1, fun e => this.2 ?_⟩
  subst e
  unfold padT; rw [Nat.mod_one]
theorem mono_own {k : Nat} (hk : 2 ≤ k) {Ws : List Nat} (h1 : 1 ≤ Ws.length) {i j v u m n : Nat} (h2 : Ws[i]? = some v) (h3 : Ws[j]? = some u) (h4 : (lenH k Ws)[i]? = some m) (h5 : (lenH k Ws)[j]? = some n) (h6 : u < v) : m ≤ n :=
  (lenH_spec hk h1).2.2.2.2.1 i j v u m n h2 h3 h4 h5 h6
theorem cmp_pos (x y : Nat) : decide (0 < cmpI (x : Int) (y : Int)) = decide (y < x) := by
  unfold cmpI
  by_cases h : x < y
  · rw [if_pos (show (x : Int) < y by omega)]; simp; omega
  · by_cases h2 : y < x
    · rw [if_neg (show ¬ (x : Int) < y by omega), if_pos (show (y : Int) < x by omega)]; simp [h2]
    · rw [if_neg (show ¬ (x : Int) < y by omega), if_neg (show ¬ (y : Int) < x by omega)]; simp; omega
set_option maxRecDepth 100000 in
set_option maxHeartbeats 8000000 in
theorem law_fits (w : World) (q : Int) (wq : (Lit.int .u8 q).wf = true) (a : Option Addr) (cap : Nat) (L : List (Bool × ByteArray)) (hL : L.length ≤ maxLen) (hz : ∀ x ∈ L, x.2.size ≤ maxLen) (hSl : Sl w a L) (ha : a = none → L = [] ∧ cap = 0) :
    Calls Try.prog 6 #[.int .u8 q, .slice a L.length cap] w fun e w' => e = .returned (.bool true) ∧ Below w.heap.size w w' := by
  obtain ⟨q, rfl, hq⟩ := u8_nat wq
  clear wq
  have HGRE := Lib.hid (greatS_any a cap L w hL hz hSl)
  have HS := Lib.hid hSl
  have HLM := Lib.hid hL
  have HAN := Lib.hid ha
  clear hSl hL hz ha
  by_cases hg : grS L = true
  · rw [hg] at HGRE
    clear hg
    go_enter Try.func6, Try.ntmps6
    go_wp2_with fail
    refine HGRE.out.mono ?_
    rintro e w1 ⟨rfl, rfl⟩
    go_wp2_with fail
    refine (awake_any _).mono ?_
    rintro e w2 ⟨rfl, hb⟩
    go_wp2
    go_ret
    exact ⟨rfl, hb⟩
  have hg0 : grS L = false := by simpa using hg
  rw [hg0] at HGRE
  obtain ⟨hz8, h67⟩ := grS_false hg0
  have HZ8 := Lib.hid hz8
  obtain ⟨k, hk⟩ : ∃ k : Nat, 2 + q % 15 = k := ⟨_, rfl⟩
  have hk' : (2 + (q : Int) % 15) = (k : Int) := by omega
  have hk2 : 2 ≤ k := by omega
  have hk16 : k ≤ 16 := by omega
  have HK := Lib.hid hk'
  clear hk hk' hz8
  by_cases h0 : ¬ chkW L = 0
  · have hl0 : lenW (k : Int) L = chkW L := lenW_in L hk2 (by omega)
    have HLN := Lib.hid (Lengths_any (k : Int) cap a L HLM.out (fun x hx => Nat.le_trans (HZ8.out x hx) (by decide)) w HS.out)
    rw [hl0] at HLN
    obtain ⟨E, hE⟩ : ∃ E, chkW L = E := ⟨_, rfl⟩
    rw [hE] at HLN h0
    have hne : (E != 0) = true := by simpa using h0
    have HNE := Lib.hid h0
    clear h0 hE hl0
    go_enter Try.func6, Try.ntmps6
    go_wp2_with fail
    rw [HK.out]
    refine HGRE.out.mono ?_
    rintro e w1 ⟨rfl, rfl⟩
    go_wp2_with fail
    refine HLN.out.mono ?_
    rintro e w2 ⟨v2, rfl, hv2, -, hb2⟩
    obtain rfl := hv2 HNE.out
    have HB2 := Lib.hid hb2
    clear hb2
    go_wp2_with fail
    refine (awake_any _).mono ?_
    rintro e w4 ⟨rfl, hb4⟩
    have HB4 := Lib.hid (bstep HB2.out hb4)
    clear hb4
    go_wp2
    go_ret
    exact ⟨rfl, HB4.out⟩
  have h0 := Decidable.not_not.1 h0
  obtain ⟨g2, g64, Ws, hWs⟩ := chkW_ok h0
  obtain rfl : L = VL Ws := hWs
  rw [VL_len] at g2 g64 h67 HGRE ⊢
  have HWZ := Lib.hid (VL_lt HZ8.out)
  obtain ⟨A, rfl⟩ : ∃ A, a = some A := by
    cases a with
    | none => have h9 := congrArg List.length (HAN.out rfl).1; rw [VL_len, List.length_nil] at h9; omega
    | some A => exact ⟨A, rfl⟩
  have HL1 := Lib.hid (fun W hS => len_own hk2 hk16 (some A) cap Ws g2 g64 64 (by omega) HWZ.out W hS)
  have hfo := fits_own hk2 g2 g64
  have HMO := Lib.hid (fun i j v u m n h2 h3 h4 h5 h6 => mono_own hk2 (Ws := Ws) (by omega) (i := i) (j := j) (v := v) (u := u) (m := m) (n := n) h2 h3 h4 h5 h6)
  have hl64 := lens_64 hk2 g2 g64
  have hps := pws_lt (q := k) hk16 (lenH k Ws) (by rw [lenH_len]; omega)
  have hkk : k ^ 64 < 2 ^ pwN := pw_lt (q := k) (d := 0) hk16
  have hln := lenH_len k Ws
  obtain ⟨ds, hds⟩ : ∃ ds, lenH k Ws = ds := ⟨_, rfl⟩
  rw [hds] at HL1 hfo HMO hl64 hps hln
  have HMI := Lib.hid (fun g c W h => min_any (g := g) (c := c) hln (by omega) (by omega) (fun d hd => (hl64 d hd).1) W h)
  have HMX := Lib.hid (fun g c W h => max_any (g := g) (c := c) hln (by omega) (by omega) (fun d hd => (hl64 d hd).2) W h)
  have HSU := Lib.hid (fun g c W h => sum_any k g c Ws.length ds hk16 hln (by omega) hl64 W h)
  obtain ⟨S, hS⟩ : ∃ S, (pws k ds).sum = S := ⟨_, rfl⟩
  obtain ⟨p, hp⟩ : ∃ p, k ^ 64 = p := ⟨_, rfl⟩
  rw [hS, hp] at hfo HSU
  rw [hS] at hps
  rw [hp] at hkk
  have HCM := Lib.hid (fun W => cCmpN (x := S) (d := p) (pwN + 10) pwN hps hkk pwN_le.2 pwN_le.1 W)
  obtain ⟨cm, hcm⟩ : ∃ cm, cmpI (S : Int) (p : Int) = cm := ⟨_, rfl⟩
  have hc1 : decide (0 < cm) = false := by rw [← hcm, cmp_pos]; simp; exact hfo.1
  have hc2 : k = 2 → (cm != 0) = false := fun e => by rw [← hcm, hfo.2 e]; unfold cmpI; simp
  rw [hcm] at HCM
  have HC2 := Lib.hid hc2
  have HDL := Lib.hid hln
  clear hcm hc2 hS hp hps hkk hfo hl64 hds hln h0 hg hg0 h67
  go_enter Try.func6, Try.ntmps6
  go_wp2_with fail
  rw [HK.out]
  refine HGRE.out.mono ?_
  rintro e w0 ⟨rfl, rfl⟩
  go_wp2_with fail
  refine (HL1.out _ HS.out).mono ?_
  rintro e w2 ⟨g1, b1, rfl, p1, hb2⟩
  have HG1 := Lib.hid p1
  have HB2 := Lib.hid hb2
  clear p1 hb2
  go_wp2_with fail
  refine (HMI.out _ _ _ HG1.out).mono ?_
  rintro e w3 ⟨⟨z, hz1, rfl⟩, rfl⟩
  have hz2 : decide (z < 1) = false := by simp; omega
  go_wp2_with fail
  refine (HMX.out _ _ _ HG1.out).mono ?_
  rintro e w3 ⟨⟨z', hz3, rfl⟩, rfl⟩
  have hz4 : decide ((64 : Int) < z') = false := by simp; omega
  go_wp2_with fail
  refine (HSU.out _ _ _ HG1.out).mono ?_
  rintro e w4 ⟨rfl, hb4⟩
  clear hz1 hz2 hz3 hz4
  have hbA := bstep (bstep hb4 ((Below.refl _ w4).alloc (Nat.le_refl _) (.cells #[.bool false, .string (mg S)] 33))) ((Below.refl _ (w4.alloc (.cells #[.bool false, .string (mg S)] 33))).alloc (Nat.le_refl _) (.cells #[.bool false, .string (mg p)] 33))
  have HG2 := Lib.hid (HG1.out.below hbA)
  have HB4 := Lib.hid (bstep HB2.out hbA)
  clear hb4 hbA HB2 HG1
  go_wp2_with fail
  refine (HCM.out _).mono ?_
  rintro e w5 ⟨rfl, hb5⟩
  have HG5 := Lib.hid (HG2.out.below hb5)
  have HB5 := Lib.hid (bstep HB4.out hb5)
  clear hb5 HB4 HG2
  have hkx : ((k : Int) == 2) = false ∨ (((k : Int) == 2) = true ∧ (cm != 0) = false) := by
    rcases Nat.lt_or_ge 2 k with hk3 | hk3
    · left; simp; omega
    · right; exact ⟨by simp; omega, HC2.out (by omega)⟩
  rcases hkx with hkb | ⟨hkb, hcm2⟩
  all_goals (
    go_wp2_with fail
    go_loopg [70] (Ws.length + 1) (fun gg x70 wr => ∃ i : Nat, x70 = .int .i64 (i : Int) ∧ i ≤ Ws.length ∧ Ws.length - i < gg ∧ Below w0.heap.size w0 wr ∧ NR wr g1 ds)
    case atStart => exact ⟨0, rfl, Nat.zero_le _, by omega, HB5.out, HG5.out⟩
    case round =>
      obtain ⟨i, rfl, hi, hig, hbr, hgr⟩ := hrel
      have HGG := Lib.hid hig
      have HBr := Lib.hid hbr
      have HGr := Lib.hid hgr
      clear hig hbr hgr HB5 HG5
      by_cases hlt : i < Ws.length
      · have hltI : (i : Int) < Ws.length := by omega
        obtain ⟨v, hv⟩ : ∃ v, Ws[i]? = some v := ⟨Ws[i], List.getElem?_eq_getElem hlt⟩
        obtain ⟨m, hm⟩ : ∃ m, ds[i]? = some m := ⟨ds[i]'(by rw [HDL.out]; exact hlt), List.getElem?_eq_getElem _⟩
        have HVM := Lib.hid (show _ ∧ _ from ⟨hv, hm⟩)
        clear hv hm
        go_wp2_with fail
        go_loopg [75] (Ws.length + 1) (fun gg x75 wx => ∃ j : Nat, x75 = .int .i64 (j : Int) ∧ j ≤ Ws.length ∧ Ws.length - j < gg ∧ Below w0.heap.size w0 wx ∧ NR wx g1 ds)
        case atStart => exact ⟨0, rfl, Nat.zero_le _, by omega, HBr.out, HGr.out⟩
        case round =>
          obtain ⟨j, rfl, hj, hjg, hbs, hgs⟩ := hrel
          have HGG2 := Lib.hid hjg
          have HBs := Lib.hid hbs
          have HGs := Lib.hid hgs
          clear hjg hbs hgs HBr HGr
          by_cases hjl : j < Ws.length
          · have hjlI : (j : Int) < Ws.length := by omega
            obtain ⟨u', hu⟩ : ∃ u', Ws[j]? = some u' := ⟨Ws[j], List.getElem?_eq_getElem hjl⟩
            obtain ⟨n, hn⟩ : ∃ n, ds[j]? = some n := ⟨ds[j]'(by rw [HDL.out]; exact hjl), List.getElem?_eq_getElem _⟩
            obtain ⟨A1, e1, a0, a1⟩ := (HS.out.below HBs.out) i _ _ (VL_at HVM.out.1)
            cases e1
            obtain ⟨A2, e2, b0, b1'⟩ := (HS.out.below HBs.out) j _ _ (VL_at hu)
            cases e2
            rw [← addr_next] at a1 b1'
            have hcmp := cmp_pos v u'
            have HCI := Lib.hid (fun W => cCmpN (x := v) (d := u') 64 64 (HWZ.out v (List.mem_of_getElem? HVM.out.1)) (HWZ.out u' (List.mem_of_getElem? hu)) (by decide) (by decide) W)
            have hmn : u' < v → m ≤ n := fun h => HMO.out i j v u' m n HVM.out.1 hu HVM.out.2 hn h
            have HMN := Lib.hid (show ds[i]? = some m ∧ ds[j]? = some n from ⟨HVM.out.2, hn⟩)
            obtain ⟨cc, hcc⟩ : ∃ cc, cmpI (v : Int) (u' : Int) = cc := ⟨_, rfl⟩
            rw [hcc] at hcmp HCI
            have hnl : ds.length = Ws.length := HDL.out
            by_cases hlu : u' < v
            · have hB : decide (0 < cc) = true := by rw [hcmp]; simpa using hlu
              have hB0 : 0 < cc := by simpa using hB
              have hmn2 : decide (n < m) = false := by have := hmn hlu; simp; omega
              clear hcmp hmn hcc hu hn hnl hB
              go_wp2_with fail
              refine wp_region_mix [.q [0, 1, 2, 3, 4, 5, 6, 7], .r 8, .q [9, 10, 11, 12, 13, 14, 15, 16, 17, 18, 19, 20]] [] (by kernel_rfl) (by kernel_rfl) (by intro d v c a w h; cases d <;> exact h) ?_
              intro X0 hb hz
              have HBx := Lib.hid (bstep HBs.out hb)
              have HGx := Lib.hid (HGs.out.below hb)
              have HAx := Lib.hid (show _ ∧ _ ∧ _ ∧ _ from ⟨(hb.cell (World.block_lt_of_cell? _ _ a0)).trans a0, (hb.cell (World.block_lt_of_cell? _ _ a1)).trans a1, (hb.cell (World.block_lt_of_cell? _ _ b0)).trans b0, (hb.cell (World.block_lt_of_cell? _ _ b1')).trans b1'⟩)
              clear hb hz a0 a1 b0 b1'
              refine wpMix_q ?_
              simp only [pickO, List.map_cons, List.map_nil, List.getElem?_toArray, List.getElem?_cons_succ, List.getElem?_cons_zero, Option.getD_some]
              haveI := cv_some X0
              have x0 : ∀ u : Cv X0, u.x.cell? (A.add (i * 2)) = some (.bool false) := fun u => (u.h.cell (World.block_lt_of_cell? _ _ HAx.out.1)).trans HAx.out.1
              have x1 : ∀ u : Cv X0, u.x.cell? ⟨(A.add (i * 2)).block, (A.add (i * 2)).off + 1, none⟩ = some (.string (mg v)) := fun u => (u.h.cell (World.block_lt_of_cell? _ _ HAx.out.2.1)).trans HAx.out.2.1
              have x2 : ∀ u : Cv X0, u.x.cell? (A.add (j * 2)) = some (.bool false) := fun u => (u.h.cell (World.block_lt_of_cell? _ _ HAx.out.2.2.1)).trans HAx.out.2.2.1
              have x3 : ∀ u : Cv X0, u.x.cell? ⟨(A.add (j * 2)).block, (A.add (j * 2)).off + 1, none⟩ = some (.string (mg u')) := fun u => (u.h.cell (World.block_lt_of_cell? _ _ HAx.out.2.2.2)).trans HAx.out.2.2.2
              iterate 8 (go_big_quiet_step (fail))
              refine wpQuiet_nil ?_
              clear this x0 x1 x2 x3
              refine wpMix_r ?_
              simp only [pickO, List.map_cons, List.map_nil, List.getElem?_toArray, List.getElem?_cons_succ, List.getElem?_cons_zero, Option.getD_some]
              go_wp2_with fail
              refine (HCI.out _).mono ?_
              rintro e w6 ⟨rfl, hb6⟩
              have HBy := Lib.hid (bstep HBx.out hb6)
              have HGy := Lib.hid (HGx.out.below hb6)
              go_wp2_with fail
              refine mixQ_ok hb6 ?_
              clear hb6 HBx HGx
              refine wpMix_q ?_
              simp only [pickO, List.map_cons, List.map_nil, List.getElem?_toArray, List.getElem?_cons_succ, List.getElem?_cons_zero, Option.getD_some]
              haveI := cv_some w6
              have y0 : ∀ u : Cv w6, u.x.cell? ⟨g1, i, none⟩ = some (.int .i64 (m : Int)) := fun u => (HGy.out.below u.h).at_ i m HMN.out.1
              have y1 : ∀ u : Cv w6, u.x.cell? ⟨g1, j, none⟩ = some (.int .i64 (n : Int)) := fun u => (HGy.out.below u.h).at_ j n HMN.out.2
              iterate 12 (go_big_quiet_step (fail))
              refine wpQuiet_nil ?_
              clear this y0 y1
              refine wpMix_nil ?_
              simp only [pickO, List.map_cons, List.map_nil, List.getElem?_toArray, List.getElem?_cons_succ, List.getElem?_cons_zero, Option.getD_some]
              go_wp2_with fail
              go_roundg (Ws.length - j)
              case rel => exact ⟨j + 1, by go_num, by omega, by omega, HBy.out, HGy.out⟩
              case measure => have := HGG2.out; omega
            · have hB : decide (0 < cc) = false := by rw [hcmp]; simpa using hlu
              clear hcmp hmn hcc hu hn hnl
              go_wp2_with fail
              refine wp_region_mix [.q [0, 1, 2, 3, 4, 5, 6, 7], .r 8, .q [9, 10, 11, 12, 13, 14, 15, 16, 17, 18, 19, 20]] [] (by kernel_rfl) (by kernel_rfl) (by intro d v c a w h; cases d <;> exact h) ?_
              intro X0 hb hz
              have HBx := Lib.hid (bstep HBs.out hb)
              have HGx := Lib.hid (HGs.out.below hb)
              have HAx := Lib.hid (show _ ∧ _ ∧ _ ∧ _ from ⟨(hb.cell (World.block_lt_of_cell? _ _ a0)).trans a0, (hb.cell (World.block_lt_of_cell? _ _ a1)).trans a1, (hb.cell (World.block_lt_of_cell? _ _ b0)).trans b0, (hb.cell (World.block_lt_of_cell? _ _ b1')).trans b1'⟩)
              clear hb hz a0 a1 b0 b1'
              refine wpMix_q ?_
              simp only [pickO, List.map_cons, List.map_nil, List.getElem?_toArray, List.getElem?_cons_succ, List.getElem?_cons_zero, Option.getD_some]
              haveI := cv_some X0
              have x0 : ∀ u : Cv X0, u.x.cell? (A.add (i * 2)) = some (.bool false) := fun u => (u.h.cell (World.block_lt_of_cell? _ _ HAx.out.1)).trans HAx.out.1
              have x1 : ∀ u : Cv X0, u.x.cell? ⟨(A.add (i * 2)).block, (A.add (i * 2)).off + 1, none⟩ = some (.string (mg v)) := fun u => (u.h.cell (World.block_lt_of_cell? _ _ HAx.out.2.1)).trans HAx.out.2.1
              have x2 : ∀ u : Cv X0, u.x.cell? (A.add (j * 2)) = some (.bool false) := fun u => (u.h.cell (World.block_lt_of_cell? _ _ HAx.out.2.2.1)).trans HAx.out.2.2.1
              have x3 : ∀ u : Cv X0, u.x.cell? ⟨(A.add (j * 2)).block, (A.add (j * 2)).off + 1, none⟩ = some (.string (mg u')) := fun u => (u.h.cell (World.block_lt_of_cell? _ _ HAx.out.2.2.2)).trans HAx.out.2.2.2
              iterate 8 (go_big_quiet_step (fail))
              refine wpQuiet_nil ?_
              clear this x0 x1 x2 x3
              refine wpMix_r ?_
              simp only [pickO, List.map_cons, List.map_nil, List.getElem?_toArray, List.getElem?_cons_succ, List.getElem?_cons_zero, Option.getD_some]
              go_wp2_with fail
              refine (HCI.out _).mono ?_
              rintro e w6 ⟨rfl, hb6⟩
              have HBy := Lib.hid (bstep HBx.out hb6)
              have HGy := Lib.hid (HGx.out.below hb6)
              go_wp2_with fail
              refine mixQ_ok hb6 ?_
              clear hb6 HBx HGx
              refine wpMix_q ?_
              simp only [pickO, List.map_cons, List.map_nil, List.getElem?_toArray, List.getElem?_cons_succ, List.getElem?_cons_zero, Option.getD_some]
              haveI := cv_some w6
              have y0 : ∀ u : Cv w6, u.x.cell? ⟨g1, i, none⟩ = some (.int .i64 (m : Int)) := fun u => (HGy.out.below u.h).at_ i m HMN.out.1
              have y1 : ∀ u : Cv w6, u.x.cell? ⟨g1, j, none⟩ = some (.int .i64 (n : Int)) := fun u => (HGy.out.below u.h).at_ j n HMN.out.2
              iterate 12 (go_big_quiet_step (fail))
              refine wpQuiet_nil ?_
              clear this y0 y1
              refine wpMix_nil ?_
              simp only [pickO, List.map_cons, List.map_nil, List.getElem?_toArray, List.getElem?_cons_succ, List.getElem?_cons_zero, Option.getD_some]
              go_wp2_with fail
              go_roundg (Ws.length - j)
              case rel => exact ⟨j + 1, by go_num, by omega, by omega, HBy.out, HGy.out⟩
              case measure => have := HGG2.out; omega
          · obtain rfl : j = Ws.length := by omega
            have hB : decide ((Ws.length : Int) < Ws.length) = false := by simp
            go_wp2_with fail
            go_roundg (Ws.length - i)
            case rel => exact ⟨i + 1, by go_num, by omega, by omega, HBs.out, HGs.out⟩
            case measure => have := HGG.out; omega
      · obtain rfl : i = Ws.length := by omega
        have hB : decide ((Ws.length : Int) < Ws.length) = false := by simp
        go_wp2_with fail
        refine (awake_any _).mono ?_
        rintro e w12 ⟨rfl, hb12⟩
        have HE := Lib.hid (bstep HBr.out hb12)
        clear hb12
        go_wp2
        go_ret
        exact ⟨rfl, HE.out⟩)
end Go.Proofs.Gv
