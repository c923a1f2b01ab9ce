/- HuffmanProofs: what the law needs, and its walk. -/
import Derived.Test.YtpdanbnfommbhaaHopt
import Derived.Test.YtpdanbnfommbhaaHlftP
set_option linter.unusedSimpArgs false
set_option linter.unusedVariables false
namespace Go.Proofs.Gv
open Go Go.RowKit Go.Maps

def idxs (ms : List (List (Nat × Nat))) : List (List Nat) := ms.map (·.map (·.1))
theorem freeI_flag {l l' : List (Nat × Bool)} (h : l.map (·.2) = l'.map (·.2)) (a : Int) : freeI l a = freeI l' a := by
  unfold freeI
  rw [← List.getElem?_map, ← List.getElem?_map, h]
theorem joinsJ_idx : ∀ (ps : List (Int × Int)) (l l' : List (Nat × Bool)), l.map (·.2) = l'.map (·.2) → (joinsJ false ps l).map idxs = (joinsJ false ps l').map idxs
  | [], _, _, _ => rfl
  | x :: r, l, l', h => by
    have hs : (stepJ l x).map (·.2) = (stepJ l' x).map (·.2) := by
      unfold stepJ joinL
      rw [List.map_append, List.map_append, List.map_set, List.map_set, List.map_set, List.map_set, h]
      rfl
    have ih := joinsJ_idx r (stepJ l x) (stepJ l' x) hs
    have ho : okJ false l x = okJ false l' x := by unfold okJ; rw [freeI_flag h, freeI_flag h]; rfl
    unfold joinsJ
    rw [ho]
    split
    · rw [Option.map_map, Option.map_map]
      have e : ∀ (o : Option (List (List (Nat × Nat)))) (k : List (Nat × Bool)), o.map (idxs ∘ fun ms => nodesJ k x :: ms) = (o.map idxs).map (fun t => [x.1.toNat, x.2.toNat] :: t) := fun o k => by cases o <;> rfl
      rw [e, e, ih]
    · rfl
theorem joins_weak : ∀ (ps : List (Int × Int)) (l : List (Nat × Bool)) (ms : List (List (Nat × Nat))), joinsJ true ps l = some ms → joinsJ false ps l = some ms
  | [], _, _, h => h
  | x :: r, l, ms, h => by
    unfold joinsJ at h ⊢
    split at h
    · rename_i hok
      have : okJ false l x = true := by
        unfold okJ at hok ⊢
        simp only [Bool.and_eq_true] at hok ⊢
        exact ⟨hok.1, rfl⟩
      rw [if_pos this]
      obtain ⟨ms', h', rfl⟩ := Option.map_eq_some_iff.1 h
      rw [joins_weak r _ ms' h']
      rfl
    · cases h
theorem start_eq (Ws : List Nat) : startL 2 Ws = Ws.map fun w => (w, true) := by
  have : padT 2 Ws.length = 0 := by unfold padT; rw [Nat.mod_one]
  unfold startL
  rw [this, List.replicate_zero, List.append_nil]
theorem own_joins {Ws : List Nat} (h1 : 1 ≤ Ws.length) : joinsJ true (pairsOf (mergesH 2 Ws)) (Ws.map fun w => (w, true)) = some (mergesH 2 Ws) := by
  have := joins_tree (startL 2 Ws).length (startL 2 Ws) (by rw [startL_cf]; exact Nat.le_refl _) (startL_pos h1)
  unfold mergesH
  rw [start_eq] at this ⊢
  exact this
theorem depJ_idx {n : Nat} {ms ms' : List (List (Nat × Nat))} (h : idxs ms = idxs ms') : depJ n ms = depJ n ms' := by
  have hl : ms.length = ms'.length := by have := congrArg List.length h; simpa [idxs] using this
  unfold depJ
  rw [hl, depR_idx ms ms' n _ h]
theorem depJ_own (Ws : List Nat) : depJ Ws.length (mergesH 2 Ws) = lenH 2 Ws := by
  unfold depJ lenH depH
  rw [start_eq, List.length_map]
/-- The same merges without weights. -/
theorem joins_zero {Ws : List Nat} {ps : List (Int × Int)} {ms : List (List (Nat × Nat))} (h : joinsJ true ps (Ws.map fun w => (w, true)) = some ms) : ∃ ms', joinsJ false ps (startW Ws.length) = some ms' ∧ depJ Ws.length ms' = depJ Ws.length ms := by
  have h1 := joins_weak ps _ ms h
  have h2 := joinsJ_idx ps (Ws.map fun w => (w, true)) (startW Ws.length) (by
    unfold startW
    rw [List.map_map, List.map_map]
    apply List.ext_getElem?
    intro i
    rw [List.getElem?_map, List.getElem?_map, List.getElem?_replicate]
    by_cases hi : i < Ws.length
    · rw [List.getElem?_eq_getElem hi, if_pos hi]; rfl
    · rw [List.getElem?_eq_none (by omega), if_neg hi])
  rw [h1] at h2
  cases h3 : joinsJ false ps (startW Ws.length) with
  | none => rw [h3] at h2; cases h2
  | some ms' => rw [h3] at h2; exact ⟨ms', rfl, depJ_idx (Option.some.inj h2).symm⟩
/-- Accepted merges: their depths. -/
theorem dep_good {Ws : List Nat} (h2 : 2 ≤ Ws.length) (h64 : Ws.length ≤ 64) {ps : List (Int × Int)} (hr : ps.length + 1 = Ws.length) {ms : List (List (Nat × Nat))} (h : joinsJ true ps (Ws.map fun w => (w, true)) = some ms) :
    (depJ Ws.length ms).length = Ws.length ∧ (∀ d ∈ depJ Ws.length ms, 1 ≤ d ∧ d ≤ 64) ∧ csum Ws (depJ Ws.length ms) = csum Ws (lenH 2 Ws) ∧ (pws 2 (depJ Ws.length ms)).sum ≤ 2 ^ 64 := by
  obtain ⟨a1, a2, a3, a4, a5⟩ := joins_cost h2 hr h
  have hm := (joins_lt hr h).2.2
  refine ⟨a4, fun d hd => ⟨(a3 d hd).1, by have := (a3 d hd).2; omega⟩, ?_, ?_⟩
  · rw [cost_eq (by decide) (by omega)]
    exact a1.trans (a5 rfl)
  · rw [pws_kr 2 a4, a2 64 (by omega)]
    exact Nat.le_refl _
theorem dep_own {n : Nat} (h2 : 2 ≤ n) (h64 : n ≤ 64) {ps : List (Int × Int)} (hr : ps.length + 1 = n) {ms : List (List (Nat × Nat))} (h : joinsJ false ps (startW n) = some ms) (hwf : ∀ x ∈ ps, (Lit.int .i64 x.1).wf = true ∧ (Lit.int .i64 x.2).wf = true) (v : Value) (w : World) (hv : MrgA w v ps) :
    Calls Try.prog 20 #[.int .i64 (n : Int), v] w fun e w' => ∃ g c, e = .returned (.tuple #[.slice (some ⟨g, 0, none⟩) n c, .int .i64 0]) ∧ NR w' g (depJ n ms) ∧ Below w.heap.size w w' := by
  have hE : depE (n : Int) ps = 0 := by unfold depE; rw [if_neg (by omega), if_neg (by omega), Int.toNat_natCast, h]
  refine (Depths_any (n : Int) v ps (by omega) hwf (wfN (by omega)) w hv).mono ?_
  intro e w' hp
  unfold DepPost at hp
  obtain ⟨u, rfl, -, h0, hb⟩ := hp
  obtain ⟨m, ms', g, c, e1, -, -, -, e2, rfl, hn⟩ := h0 hE
  obtain rfl : n = m := by omega
  rw [h] at e2
  cases e2
  rw [hE]
  exact ⟨g, c, rfl, hn, hb⟩
theorem mer_own (a : Option Addr) (cap : Nat) (Ws : List Nat) (h2 : 2 ≤ Ws.length) (h64 : Ws.length ≤ 64) (hz : ∀ x ∈ VL Ws, x.2.size ≤ 8) (w : World) (hS : Sl w a (VL Ws)) :
    Calls Try.prog 10 #[.slice a Ws.length cap] w fun e w' => ∃ v, e = .returned (.tuple #[v, .int .i64 0]) ∧ MrgAt w' v (pairsOf (mergesH 2 Ws)) ∧ Below w.heap.size w w' := by
  have := Merges_any cap a (VL Ws) (by rw [VL_len]; unfold maxLen; omega) (fun x hx => Nat.le_trans (hz x hx) (by decide)) w hS
  rw [chkW_VL h2 h64, VL_len] at this
  refine this.mono ?_
  rintro e w' ⟨⟨v, rfl, -, hm⟩, hb⟩
  obtain ⟨Ws', eW, -, -, hm⟩ := hm rfl
  obtain rfl := VL_inj eW
  exact ⟨v, rfl, hm, hb⟩
theorem own_wf {Ws : List Nat} (h2 : 2 ≤ Ws.length) (h64 : Ws.length ≤ 64) : ∀ x ∈ pairsOf (mergesH 2 Ws), (Lit.int .i64 x.1).wf = true ∧ (Lit.int .i64 x.2).wf = true := fun x hx => by
  unfold pairsOf at hx
  obtain ⟨ns, hns, rfl⟩ := List.mem_map.1 hx
  obtain ⟨x, y, rfl⟩ := ms_two (by omega) hns
  obtain ⟨m1, -⟩ := ms_lt (q := 2) (Nat.le_refl 2) (Ws := Ws) (by omega)
  have hm := merges_lt (k := 2) (by decide) h2
  have hs : (startL 2 Ws).length = Ws.length := by rw [start_eq, List.length_map]
  have b1 := m1 _ hns x (by simp)
  have b2 := m1 _ hns y (by simp)
  exact ⟨wfN (by omega), wfN (by omega)⟩
theorem own_len {Ws : List Nat} (h2 : 2 ≤ Ws.length) : (pairsOf (mergesH 2 Ws)).length + 1 = Ws.length := by
  have h3 := (lenH_spec (q := 2) (by decide) (W := Ws) (by omega)).2.2.2.2.2
  have hs : (startL 2 Ws).length = Ws.length := by rw [start_eq, List.length_map]
  unfold pairsOf
  rw [List.length_map]
  omega
set_option maxRecDepth 100000 in
set_option maxHeartbeats 8000000 in
theorem law_proofs (w : World) (a : Option Addr) (cap : Nat) (L : List (Bool × ByteArray)) (hL : L.length ≤ maxLen) (hz : ∀ x ∈ L, x.2.size ≤ maxLen) (hSl : Sl w a L) (ha : a = none → L = [] ∧ cap = 0)
    (av : Option Addr) (cv : Nat) (ps : List (Int × Int)) (hps : ps.length ≤ maxLen) (hwf : ∀ x ∈ ps, (Lit.int .i64 x.1).wf = true ∧ (Lit.int .i64 x.2).wf = true) (hv : MrgA w (.slice av ps.length cv) ps) (hav : av = none → ps = [] ∧ cv = 0) :
    Calls Try.prog 7 #[.slice a L.length cap, .slice av ps.length cv] w fun e w' => e = .returned (.bool true) ∧ Below w.heap.size w w' := by
  have HGRE := Lib.hid (greatS_any a cap L w hL hz hSl)
  have HS := Lib.hid hSl
  have HLM := Lib.hid hL
  have HV := Lib.hid hv
  have HWF := Lib.hid hwf
  unfold maxLen at hps
  clear hSl hL hz ha hv hwf hav
  by_cases hg : grS L = true
  · rw [hg] at HGRE
    clear hg
    go_enter Try.func7, Try.ntmps7
    go_wp2_with fail
    refine HGRE.out.mono ?_
    rintro e w1 ⟨rfl, rfl⟩
    go_wp2_with fail
    refine (awake_any _).mono ?_
    rintro e w9 ⟨rfl, hb⟩
    go_wp2
    go_ret
    exact ⟨rfl, hb⟩
  have hg0 : grS L = false := by simpa using hg
  rw [hg0] at HGRE
  obtain ⟨hz8, h67⟩ := grS_false hg0
  have HZ8 := Lib.hid hz8
  clear hg hg0 hz8 h67
  by_cases h10 : 10 < ps.length
  · have hd : decide ((10 : Int) < ps.length) = true := by simp; omega
    have hdI : (10 : Int) < ps.length := by omega
    clear h10
    go_enter Try.func7, Try.ntmps7
    go_wp2_with fail
    refine HGRE.out.mono ?_
    rintro e w1 ⟨rfl, rfl⟩
    go_wp2_with fail
    refine (awake_any _).mono ?_
    rintro e w9 ⟨rfl, hb⟩
    go_wp2
    go_ret
    exact ⟨rfl, hb⟩
  have h10B : decide ((10 : Int) < ps.length) = false := by simp; omega
  have h10N : ps.length ≤ 10 := by omega
  have HCK := Lib.hid (fun W hS hM => Check_m_any a cap L (.slice av ps.length cv) ps HLM.out HZ8.out (by omega) HWF.out W hS hM)
  have HMR := Lib.hid (Merges_any cap a L HLM.out (fun x hx => Nat.le_trans (HZ8.out x hx) (by decide)) w HS.out)
  have HLN := Lib.hid (fun W (hb : Below w.heap.size w W) => Lengths_any 2 cap a L HLM.out (fun x hx => Nat.le_trans (HZ8.out x hx) (by decide)) W (HS.out.below hb))
  rw [lenW_two] at HLN
  by_cases h0 : ¬ chkW L = 0
  · have hce : chkE L ps = chkW L := by unfold chkE; rw [if_pos h0]
    rw [hce] at HCK
    obtain ⟨E, hE⟩ : ∃ E, chkW L = E := ⟨_, rfl⟩
    rw [hE] at HMR HLN HCK h0
    have hne : (E != 0) = true := by simpa using h0
    have hee : (E == E) = true := by simp
    clear h0 hE hce h10
    go_enter Try.func7, Try.ntmps7
    go_wp2_with fail
    refine HGRE.out.mono ?_
    rintro e w1 ⟨rfl, rfl⟩
    go_wp2_with fail
    refine HMR.out.mono ?_
    rintro e w2 ⟨⟨v2, rfl, -, -⟩, hb2⟩
    have HB2 := Lib.hid hb2
    have HL2 := Lib.hid (HLN.out w2 hb2)
    clear hb2
    go_wp2_with fail
    refine HL2.out.mono ?_
    rintro e w3 ⟨v3, rfl, -, -, hb3⟩
    have HB3 := Lib.hid (bstep HB2.out hb3)
    clear hb3 HL2
    go_wp2_with fail
    refine (HCK.out _ (HS.out.below HB3.out) (HV.out.below HB3.out)).mono ?_
    rintro e w4 ⟨rfl, hb4⟩
    have HB4 := Lib.hid (bstep HB3.out hb4)
    clear hb4
    go_wp2_with fail
    refine (awake_any _).mono ?_
    rintro e w5 ⟨rfl, hb5⟩
    have HB5 := Lib.hid (bstep HB4.out hb5)
    clear hb5
    go_wp2
    go_ret
    exact ⟨rfl, HB5.out⟩
  have h0 := Decidable.not_not.1 h0
  obtain ⟨g2, g64, Ws, hWs⟩ := chkW_ok h0
  obtain rfl : L = VL Ws := hWs
  rw [VL_len] at g2 g64 HGRE HCK ⊢
  have HWZ := Lib.hid (VL_lt HZ8.out)
  have HM1 := Lib.hid (fun W hS => mer_own a cap Ws g2 g64 HZ8.out W hS)
  have HL1 := Lib.hid (fun W hS => len_own (k := 2) (by decide) (by decide) a cap Ws g2 g64 64 (by decide) HWZ.out W hS)
  rw [show ((2 : Nat) : Int) = 2 from rfl] at HL1
  obtain ⟨mo, hmo1, hmo2⟩ := joins_zero (own_joins (Ws := Ws) (by omega))
  rw [depJ_own] at hmo2
  have HD1 := Lib.hid (fun v W hM => dep_own g2 g64 (own_len g2) hmo1 (own_wf g2 g64) v W hM)
  rw [hmo2] at HD1
  have hco : chkE (VL Ws) (pairsOf (mergesH 2 Ws)) = 0 := by
    unfold chkE
    rw [if_neg (by rw [h0]; simp), VL_len, if_neg (by rw [own_len g2]; simp), wtsOf_VL, own_joins (by omega)]
  have HC1 := Lib.hid (fun v W hS hM => Check_m_any a cap (VL Ws) v (pairsOf (mergesH 2 Ws)) HLM.out HZ8.out (by have := own_len g2; omega) (own_wf g2 g64) W hS hM)
  rw [hco, VL_len] at HC1
  have HLL := Lib.hid (lenH_len 2 Ws)
  have HWS := Lib.hid (show 2 ≤ Ws.length ∧ Ws.length ≤ 64 from ⟨g2, g64⟩)
  by_cases h1 : ¬ chkE (VL Ws) ps = 0
  · obtain ⟨E, hE⟩ : ∃ E, chkE (VL Ws) ps = E := ⟨_, rfl⟩
    rw [hE] at HCK h1
    have hne : (E != 0) = true := by simpa using h1
    clear h1 hE h0 h10 hco hmo1 hmo2 HMR HLN
    go_enter Try.func7, Try.ntmps7
    go_wp2_with fail
    refine HGRE.out.mono ?_
    rintro e w1 ⟨rfl, rfl⟩
    go_wp2_with fail
    refine (HM1.out _ HS.out).mono ?_
    rintro e w2 ⟨v2, rfl, hm2, hb2⟩
    have HM2 := Lib.hid hm2
    have HB2 := Lib.hid hb2
    clear hm2 hb2
    go_wp2_with fail
    refine (HL1.out _ (HS.out.below HB2.out)).mono ?_
    rintro e w3 ⟨g3, c3, rfl, p3, hb3⟩
    have HM3 := Lib.hid (HM2.out.below hb3)
    have HG3 := Lib.hid p3
    have HB3 := Lib.hid (bstep HB2.out hb3)
    clear p3 hb3 HM2 HB2
    go_wp2_with fail
    refine (HD1.out _ _ HM3.out.a).mono ?_
    rintro e w4 ⟨g4, c4, rfl, p4, hb4⟩
    have HM4 := Lib.hid (HM3.out.below hb4)
    have HG4 := Lib.hid (HG3.out.below hb4)
    have HD4 := Lib.hid p4
    have HB4 := Lib.hid (bstep HB3.out hb4)
    clear p4 hb4 HM3 HG3 HB3
    go_wp2_with fail
    refine (HC1.out _ _ (HS.out.below HB4.out) HM4.out.a).mono ?_
    rintro e w5 ⟨rfl, hb5⟩
    have HG5 := Lib.hid (HG4.out.below hb5)
    have HD5 := Lib.hid (HD4.out.below hb5)
    have HB5 := Lib.hid (bstep HB4.out hb5)
    clear hb5 HM4 HG4 HD4 HB4
    go_wp2_with fail
    refine (eqNat_any HLL.out HLL.out (by have := HWS.out; omega) HD5.out HG5.out).mono ?_
    rintro e w6 ⟨rfl, hb6⟩
    rw [decide_eq_true (show lenH 2 Ws = lenH 2 Ws from rfl)]
    have HG6 := Lib.hid (HG5.out.below hb6)
    have HB6 := Lib.hid (bstep HB5.out hb6)
    clear hb6 HG5 HD5 HB5
    go_wp2_with fail
    refine (HCK.out _ (HS.out.below HB6.out) (HV.out.below HB6.out)).mono ?_
    rintro e w8 ⟨rfl, hb8⟩
    have HB8 := Lib.hid (bstep HB6.out hb8)
    clear hb8
    go_wp2_with fail
    refine (awake_any _).mono ?_
    rintro e w9 ⟨rfl, hb9⟩
    have HB9 := Lib.hid (bstep HB8.out hb9)
    clear hb9
    go_wp2
    go_ret
    exact ⟨rfl, HB9.out⟩
  have h1 := Decidable.not_not.1 h1
  rw [h1] at HCK
  obtain ⟨ms, hpl, hms⟩ : ∃ ms, ps.length + 1 = Ws.length ∧ joinsJ true ps (Ws.map fun w => (w, true)) = some ms := by
    have h2 := h1
    unfold chkE at h2
    rw [if_neg (by rw [h0]; simp), VL_len, wtsOf_VL] at h2
    by_cases h3 : ps.length + 1 ≠ Ws.length
    · rw [if_pos h3] at h2; cases h2
    · rw [if_neg h3] at h2
      cases h4 : joinsJ true ps (Ws.map fun w => (w, true)) with
      | none => rw [h4] at h2; cases h2
      | some ms => exact ⟨ms, by omega, rfl⟩
  obtain ⟨mz, hmz1, hmz2⟩ := joins_zero hms
  obtain ⟨d1, d2, d3, d4⟩ := dep_good g2 g64 hpl hms
  have HD2 := Lib.hid (fun W hM => dep_own g2 g64 hpl hmz1 HWF.out (.slice av ps.length cv) W hM)
  rw [hmz2] at HD2
  obtain ⟨ds, hds⟩ : ∃ ds, depJ Ws.length ms = ds := ⟨_, rfl⟩
  rw [hds] at HD2 d1 d2 d3 d4
  have HCA := Lib.hid (fun v W hS hv => cost_own (k := 2) (by decide) (by decide) a cap Ws g2 g64 64 (by decide) HWZ.out v W ds d1 d2 hS hv)
  have HCB := Lib.hid (fun v W hS hv => cost_own (k := 2) (by decide) (by decide) a cap Ws g2 g64 64 (by decide) HWZ.out v W (lenH 2 Ws) (lenH_len _ _) (lens_64 (by decide) g2 g64) hS hv)
  rw [d3] at HCA
  have HOP := Lib.hid (fun v W hS (hv : RowAt W v (natV ds)) => Optimal_any cap a (VL Ws) v (ds.map fun (k : Nat) => (k : Int)) HLM.out (by rw [List.length_map, d1]; unfold maxLen; omega) HZ8.out W hS (by rw [← natV_ints]; exact hv))
  have hce : costE (VL Ws) (ds.map fun (k : Nat) => (k : Int)) = 0 := by
    unfold costE
    rw [if_neg (by rw [h0]; simp), if_neg (by rw [List.length_map, d1, VL_len]; simp), if_neg]
    simp only [Bool.not_eq_true, List.any_eq_false, List.mem_map]
    rintro _ ⟨d, hd', rfl⟩
    have := d2 d hd'
    simp [badL]; omega
  have hop : optV (VL Ws) (ds.map fun (k : Nat) => (k : Int)) = true := by
    unfold optV
    rw [if_neg (by rw [hce]; simp), natsOf_cast, wtsOf_VL, d3, decide_eq_true d4]
    simp
  rw [hce, hop, VL_len] at HOP
  have HDL := Lib.hid d1
  obtain ⟨c0, hc0⟩ : ∃ c, csum Ws (lenH 2 Ws) = c := ⟨_, rfl⟩
  rw [hc0] at HCA HCB
  have heq : eqI false (mg c0) false (mg c0) = true := eqI_iff.2 ⟨rfl, rfl⟩
  clear h1 h0 h10 hco hmo1 hmo2 HMR HLN hpl hms hmz1 hmz2 d1 d2 d3 d4 hds hce hop hc0
  go_enter Try.func7, Try.ntmps7
  go_wp2_with fail
  refine HGRE.out.mono ?_
  rintro e w1 ⟨rfl, rfl⟩
  go_wp2_with fail
  refine (HM1.out _ HS.out).mono ?_
  rintro e w2 ⟨v2, rfl, hm2, hb2⟩
  have HM2 := Lib.hid hm2
  have HB2 := Lib.hid hb2
  clear hm2 hb2
  go_wp2_with fail
  refine (HL1.out _ (HS.out.below HB2.out)).mono ?_
  rintro e w3 ⟨g3, c3, rfl, p3, hb3⟩
  have HM3 := Lib.hid (HM2.out.below hb3)
  have HG3 := Lib.hid p3
  have HB3 := Lib.hid (bstep HB2.out hb3)
  clear p3 hb3 HM2 HB2
  go_wp2_with fail
  refine (HD1.out _ _ HM3.out.a).mono ?_
  rintro e w4 ⟨g4, c4, rfl, p4, hb4⟩
  have HM4 := Lib.hid (HM3.out.below hb4)
  have HG4 := Lib.hid (HG3.out.below hb4)
  have HD4 := Lib.hid p4
  have HB4 := Lib.hid (bstep HB3.out hb4)
  clear p4 hb4 HM3 HG3 HB3
  go_wp2_with fail
  refine (HC1.out _ _ (HS.out.below HB4.out) HM4.out.a).mono ?_
  rintro e w5 ⟨rfl, hb5⟩
  have HG5 := Lib.hid (HG4.out.below hb5)
  have HD5 := Lib.hid (HD4.out.below hb5)
  have HB5 := Lib.hid (bstep HB4.out hb5)
  clear hb5 HM4 HG4 HD4 HB4
  go_wp2_with fail
  refine (eqNat_any HLL.out HLL.out (by have := HWS.out; omega) HD5.out HG5.out).mono ?_
  rintro e w6 ⟨rfl, hb6⟩
  rw [decide_eq_true (show lenH 2 Ws = lenH 2 Ws from rfl)]
  have HG6 := Lib.hid (HG5.out.below hb6)
  have HB6 := Lib.hid (bstep HB5.out hb6)
  clear hb6 HG5 HD5 HB5
  go_wp2_with fail
  refine (HCK.out _ (HS.out.below HB6.out) (HV.out.below HB6.out)).mono ?_
  rintro e w8 ⟨rfl, hb8⟩
  have HB8 := Lib.hid (bstep HB6.out hb8)
  have HG8 := Lib.hid (HG6.out.below hb8)
  clear hb8 HB6 HG6
  go_wp2_with fail
  refine (HD2.out _ (HV.out.below HB8.out)).mono ?_
  rintro e w9 ⟨g9, c9, rfl, p9, hb9⟩
  have HG9 := Lib.hid (HG8.out.below hb9)
  have HB9 := Lib.hid (bstep HB8.out hb9)
  have HD9 := Lib.hid p9
  clear hb9 p9 HG8 HB8
  go_wp2_with fail
  refine (HCA.out _ _ (HS.out.below HB9.out) (HD9.out.row HDL.out.symm)).mono ?_
  rintro e wa ⟨rfl, hba⟩
  have hbA := bstep hba ((Below.refl _ wa).alloc (Nat.le_refl _) (.cells #[.bool false, .string (mg c0)] 33))
  have HGa := Lib.hid (HG9.out.below hbA)
  have HDa := Lib.hid (HD9.out.below hbA)
  have HBa := Lib.hid (bstep HB9.out hbA)
  have HPa := Lib.hid (BC.new wa wa.heap.size #[.bool false, .string (mg c0)] 33 rfl)
  obtain ⟨Wa, hWa⟩ : ∃ W, wa.alloc (.cells #[.bool false, .string (mg c0)] 33) = W := ⟨_, rfl⟩
  obtain ⟨Ba, hBa⟩ : ∃ B, wa.heap.size = B := ⟨_, rfl⟩
  rw [hWa] at HGa HDa HBa HPa
  rw [hBa] at HPa
  clear hba hbA HG9 HD9 HB9
  go_wp2_with fail
  clear hWa hBa
  refine (HCB.out _ _ (HS.out.below HBa.out) (HGa.out.row HLL.out.symm)).mono ?_
  rintro e wb ⟨rfl, hbb⟩
  have hbA := bstep hbb ((Below.refl _ wb).alloc (Nat.le_refl _) (.cells #[.bool false, .string (mg c0)] 33))
  have HDb := Lib.hid (HDa.out.below hbA)
  have HBb := Lib.hid (bstep HBa.out hbA)
  have HPa2 := Lib.hid (HPa.out.below hbA)
  have HPb := Lib.hid (BC.new wb wb.heap.size #[.bool false, .string (mg c0)] 33 rfl)
  obtain ⟨Wb, hWb⟩ : ∃ W, wb.alloc (.cells #[.bool false, .string (mg c0)] 33) = W := ⟨_, rfl⟩
  obtain ⟨Bb, hBb⟩ : ∃ B, wb.heap.size = B := ⟨_, rfl⟩
  rw [hWb] at HDb HBb HPa2 HPb
  rw [hBb] at HPb
  clear hbb hbA HGa HDa HBa HPa
  go_wp2_with fail
  clear hWb hBb
  refine (HOP.out _ _ (HS.out.below HBb.out) (HDb.out.row HDL.out.symm)).mono ?_
  rintro e wc ⟨rfl, hbc⟩
  have HBc := Lib.hid (bstep HBb.out hbc)
  have HPa3 := Lib.hid (HPa2.out.below hbc)
  have HPb3 := Lib.hid (HPb.out.below hbc)
  clear hbc HDb HBb HPa2 HPb
  have x0 := HPa3.out.at 0 _ rfl
  have x1 := HPa3.out.at 1 _ rfl
  have x2 := HPb3.out.at 0 _ rfl
  have x3 := HPb3.out.at 1 _ rfl
  go_wp2_with fail
  refine (awake_any _).mono ?_
  rintro e wd ⟨rfl, hbd⟩
  have HBd := Lib.hid (bstep HBc.out hbd)
  clear hbd x0 x1 x2 x3
  go_wp2
  go_ret
  exact ⟨rfl, HBd.out⟩
end Go.Proofs.Gv
