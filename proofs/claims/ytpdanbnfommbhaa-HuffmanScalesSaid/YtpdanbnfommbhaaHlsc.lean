/- HuffmanScales: the walk of the law. -/
import Derived.Test.YtpdanbnfommbhaaHlsum
import Derived.Test.YtpdanbnfommbhaaHcat
import Derived.Deep.Slices
set_option linter.unusedSimpArgs false
set_option linter.unusedVariables false
namespace Go.Proofs.Gv
open Go Go.RowKit Go.Maps

theorem lenW_in (L : List (Bool × ByteArray)) {k : Nat} (h1 : 2 ≤ k) (h2 : k ≤ 16) : lenW (k : Int) L = chkW L := by unfold lenW; rw [if_neg (by omega)]
theorem cost_eq {k : Nat} (hk : 2 ≤ k) {Ws : List Nat} (h1 : 1 ≤ Ws.length) : csum Ws (lenH k Ws) = sumsT (mergesH k Ws) := (lenH_spec hk h1).1
theorem rot_perm (Ws : List Nat) (t : Nat) : Ws.Perm (Ws.drop t ++ Ws.take t) := by
  have := List.perm_append_comm (l₁ := Ws.take t) (l₂ := Ws.drop t)
  rwa [List.take_append_drop] at this
theorem cost_rot {k : Nat} (hk : 2 ≤ k) {Ws : List Nat} (h1 : 1 ≤ Ws.length) (t : Nat) : csum (Ws.drop t ++ Ws.take t) (lenH k (Ws.drop t ++ Ws.take t)) = csum Ws (lenH k Ws) := by
  rw [cost_eq hk h1, cost_eq hk (by rw [← (rot_perm Ws t).length_eq]; exact h1)]
  exact (sums_perm hk h1 (rot_perm Ws t)).symm
theorem cost_more {k : Nat} (hk : 2 ≤ k) {Ws : List Nat} (h1 : 1 ≤ Ws.length) : csum Ws (lenH (k + 1) Ws) ≤ csum Ws (lenH k Ws) := by
  obtain ⟨a1, a2, a3, -, -, -⟩ := lenH_spec hk h1
  rw [cost_eq (show 2 ≤ k + 1 by omega) h1]
  obtain ⟨-, -, -, b4, -, -⟩ := lenH_spec (show 2 ≤ k + 1 by omega) h1
  refine b4 (Ws.zip (lenH k Ws)) ?_ (fit_more hk (by omega) ⟨(mergesH k Ws).length, fun x hx => a3 _ (List.of_mem_zip hx).2, (a2 _ (Nat.le_refl _)).1⟩)
  rw [List.map_fst_zip (by rw [lenH_len]; exact Nat.le_refl _)]
theorem merges_lt {k : Nat} (hk : 2 ≤ k) {Ws : List Nat} (h2 : 2 ≤ Ws.length) : (mergesH k Ws).length ≤ Ws.length - 1 := by
  have h3 := (lenH_spec hk (W := Ws) (by omega)).2.2.2.2.2
  have h4 := startL_len k Ws
  have h5 := padT_lt (q := k) (n := Ws.length) hk
  generalize (mergesH k Ws).length = m at *
  generalize padT k Ws.length = p at *
  generalize Ws.length = n at *
  rw [h4] at h3
  rcases Nat.lt_or_ge m n with h | h
  · omega
  · exfalso
    have a1 : n * (k - 1) ≤ m * (k - 1) := Nat.mul_le_mul_right _ h
    have a2 : n * (k - 1) = (n - 1) * (k - 1) + (k - 1) := by
      obtain ⟨n', rfl⟩ : ∃ n', n = n' + 1 := ⟨n - 1, by omega⟩
      rw [Nat.add_sub_cancel, Nat.succ_mul]
    have a3 : (n - 1) * 1 ≤ (n - 1) * (k - 1) := Nat.mul_le_mul_left _ (by omega)
    omega
theorem lens_64 {k : Nat} (hk : 2 ≤ k) {Ws : List Nat} (h2 : 2 ≤ Ws.length) (h64 : Ws.length ≤ 64) : ∀ d ∈ lenH k Ws, 1 ≤ d ∧ d ≤ 64 := fun d hd =>
  ⟨lenH_pos hk h2 d hd, by have := (lenH_spec hk (W := Ws) (by omega)).2.2.1 d hd; have := merges_lt hk h2; omega⟩
/-- Block g holds these numbers. -/
structure NR (W : World) (g : Nat) (ds : List Nat) : Prop where
  lt : g < W.heap.size
  at_ : ∀ (i d : Nat), ds[i]? = some d → W.cell? ⟨g, i, none⟩ = some (.int .i64 (d : Int))
theorem NR.below {W W' : World} {g : Nat} {ds : List Nat} (h : NR W g ds) (hb : Below W.heap.size W W') : NR W' g ds :=
  ⟨Nat.lt_of_lt_of_le h.lt hb.size, fun i d hi => (hb.cell (p := ⟨g, i, none⟩) h.lt).trans (h.at_ i d hi)⟩
theorem NR.row {W : World} {g c : Nat} {ds : List Nat} (h : NR W g ds) {n : Nat} (hn : n = ds.length) : RowAt W (.slice (some ⟨g, 0, none⟩) n c) (natV ds) := by
  subst hn
  refine ⟨some ⟨g, 0, none⟩, c, by rw [natV_len], fun i x hi => ⟨g, rfl, ?_⟩⟩
  unfold natV at hi
  rw [List.getElem?_map] at hi
  cases hd : ds[i]? with
  | none => rw [hd] at hi; cases hi
  | some k => rw [hd] at hi; cases hi; exact h.at_ i k hd
theorem eqNat_any {g c p c2 n : Nat} {ds es : List Nat} (hx : ds.length = n) (hy : es.length = n) (hn : n ≤ 1000) {W : World} (hu : NR W g ds) (hv : NR W p es) :
    Calls Try.prog 18 #[.slice (some ⟨g, 0, none⟩) n c, .slice (some ⟨p, 0, none⟩) n c2] W fun e w' => e = .returned (.bool (decide (ds = es))) ∧ Below W.heap.size W w' := by
  have key : ∀ {q : Nat} {l : List Nat}, NR W q l → ∀ i x, (intsV (l.map fun (k : Nat) => (k : Int)))[i]? = some x → W.cell? ⟨q, i, none⟩ = some x := fun {q l} h i x hi => by
    unfold intsV at hi
    rw [List.getElem?_map, List.getElem?_map] at hi
    cases hd : l[i]? with
    | none => rw [hd] at hi; cases hi
    | some k => rw [hd] at hi; cases hi; exact h.at_ i k hd
  refine (eqInt_any (W0 := W) (g := g) (c := c) (p := p) (c2 := c2) (n := n) (xs := ds.map fun (k : Nat) => (k : Int)) (ys := es.map fun (k : Nat) => (k : Int)) (by rw [List.length_map]; exact hx) (by rw [List.length_map]; exact hy) hn (key hu) (key hv)).mono ?_
  rintro e w' ⟨rfl, hb⟩
  refine ⟨?_, hb⟩
  have : ((ds.map fun (k : Nat) => (k : Int)) == (es.map fun (k : Nat) => (k : Int))) = decide (ds = es) := by
    rw [Bool.eq_iff_iff, beq_iff_eq, decide_eq_true_iff]
    refine ⟨fun h => ?_, fun h => by rw [h]⟩
    have h2 := congrArg (List.map Int.toNat) h
    rw [List.map_map, List.map_map] at h2
    have hid : ∀ l : List Nat, l.map (Int.toNat ∘ fun (k : Nat) => (k : Int)) = l := fun l => (List.map_congr_left fun x _ => Int.toNat_natCast x).trans (List.map_id l)
    rwa [hid, hid] at h2
  rw [this]
theorem Sl.take {W : World} {A : Addr} {L : List (Bool × ByteArray)} (h : Sl W (some A) L) (t : Nat) : Sl W (some A) (L.take t) := fun i n s hi => by
  rw [List.getElem?_take] at hi
  split at hi
  · exact h i n s hi
  · cases hi
theorem Sl.drop {W : World} {A : Addr} {L : List (Bool × ByteArray)} (h : Sl W (some A) L) (t : Nat) : Sl W (some (A.add (t * 2))) (L.drop t) := fun i n s hi => by
  rw [List.getElem?_drop] at hi
  obtain ⟨A', e, h1, h2⟩ := h (t + i) n s hi
  cases e
  refine ⟨_, rfl, ?_, ?_⟩
  · rw [Go.Deep.add_add, ← Nat.add_mul]; exact h1
  · rw [Go.Deep.add_add, show t * 2 + (i * 2 + 1) = (t + i) * 2 + 1 by omega]; exact h2
/-- The cost of the lengths that huffman.Lengths returns. -/
theorem cost_own {k : Nat} (hk : 2 ≤ k) (hk2 : k ≤ 16) (a : Option Addr) (cap : Nat) (Ws : List Nat) (h2 : 2 ≤ Ws.length) (h64 : Ws.length ≤ 64) (N : Nat) (hN : N ≤ 500) (hW : ∀ z ∈ Ws, z < 2 ^ N) (v : Value) (W : World) (ds : List Nat) (hds : ds.length = Ws.length) (hd : ∀ d ∈ ds, 1 ≤ d ∧ d ≤ 64) (hS : Sl W a (VL Ws)) (hv : RowAt W v (natV ds)) :
    Calls Try.prog 12 #[.slice a Ws.length cap, v] W fun e w' => e = .returned (.tuple #[.agg #[.bool false, .string (mg (csum Ws ds))], .int .i64 0]) ∧ Below W.heap.size W w' := by
  have hz : ∀ x ∈ VL Ws, x.2.size ≤ 100000 := fun x hx => by
    unfold VL at hx
    obtain ⟨z, hz, rfl⟩ := List.mem_map.1 hx
    exact Nat.le_trans (size_mg (n := z) (k := N) (Nat.lt_of_lt_of_le (hW z hz) (Nat.pow_le_pow_left (by decide) N))) (by omega)
  rw [natV_ints] at hv
  have hce : costE (VL Ws) (ds.map fun (k : Nat) => (k : Int)) = 0 := by
    unfold costE
    rw [if_neg (by rw [chkW_VL h2 h64]; simp), if_neg (by rw [List.length_map, hds, VL_len]; simp), if_neg]
    simp only [Bool.not_eq_true, List.any_eq_false, List.mem_map]
    rintro _ ⟨d, hd', rfl⟩
    have := hd d hd'
    simp [badL]; omega
  have := Cost_any cap a (VL Ws) v (ds.map fun (k : Nat) => (k : Int)) (by rw [VL_len]; unfold maxLen; omega) (by rw [List.length_map, hds]; unfold maxLen; omega) hz W hS hv
  rw [hce, VL_len] at this
  refine this.mono ?_
  rintro e w' ⟨⟨z, rfl, -, hz4⟩, hb⟩
  obtain ⟨Ws', ds', eW, eD, -, -, -, -, rfl⟩ := hz4 rfl
  obtain rfl := VL_inj eW
  obtain rfl : ds = ds' := by
    have := congrArg (List.map Int.toNat) eD
    rw [List.map_map, List.map_map] at this
    have hid : ∀ l : List Nat, l.map (Int.toNat ∘ fun (k : Nat) => (k : Int)) = l := fun l => (List.map_congr_left fun x _ => Int.toNat_natCast x).trans (List.map_id l)
    rwa [hid, hid] at this
  exact ⟨rfl, hb⟩
/-- huffman.Lengths at valid weights. -/
theorem len_own {k : Nat} (hk : 2 ≤ k) (hk2 : k ≤ 16) (a : Option Addr) (cap : Nat) (Ws : List Nat) (h2 : 2 ≤ Ws.length) (h64 : Ws.length ≤ 64) (N : Nat) (hN : N ≤ 500) (hW : ∀ z ∈ Ws, z < 2 ^ N) (W : World) (hS : Sl W a (VL Ws)) :
    Calls Try.prog 11 #[.int .i64 (k : Int), .slice a Ws.length cap] W fun e w' => ∃ g c, e = .returned (.tuple #[.slice (some ⟨g, 0, none⟩) Ws.length c, .int .i64 0]) ∧ NR w' g (lenH k Ws) ∧ Below W.heap.size W w' := by
  have hz : ∀ x ∈ VL Ws, x.2.size ≤ 100000 := fun x hx => by
    unfold VL at hx
    obtain ⟨z, hz, rfl⟩ := List.mem_map.1 hx
    exact Nat.le_trans (size_mg (n := z) (k := N) (Nat.lt_of_lt_of_le (hW z hz) (Nat.pow_le_pow_left (by decide) N))) (by omega)
  have := Lengths_any (k : Int) cap a (VL Ws) (by rw [VL_len]; unfold maxLen; omega) hz W hS
  rw [lenW_in _ hk hk2, chkW_VL h2 h64, VL_len] at this
  refine this.mono ?_
  rintro e w' ⟨v, rfl, -, hl, hb⟩
  obtain ⟨n', Ws', e1, eW, -, -, -, -, g, c, rfl, h1, h3, h4⟩ := hl rfl
  obtain rfl : k = n' := by omega
  obtain rfl := VL_inj eW
  rw [lenH_len]
  exact ⟨g, c, rfl, ⟨h3, h4⟩, hb⟩
theorem u8_nat {n : Int} (h : (Lit.int .u8 n).wf = true) : ∃ m : Nat, n = m ∧ m ≤ 255 := by
  have := bounds_u8 h
  exact ⟨n.toNat, by omega, by omega⟩
set_option maxRecDepth 100000 in
set_option maxHeartbeats 8000000 in
theorem law_scales (w : World) (q : Int) (wq : (Lit.int .u8 q).wf = true) (f : Int) (wf : (Lit.int .u8 f).wf = true) (t : Int) (wt : (Lit.int .u8 t).wf = true)
    (a : Option Addr) (cap : Nat) (L : List (Bool × ByteArray)) (hL : L.length ≤ maxLen) (hz : ∀ x ∈ L, x.2.size ≤ maxLen) (hSl : Sl w a L) (ha : a = none → L = [] ∧ cap = 0) (hc : L.length ≤ cap ∧ cap ≤ maxLen) :
    Calls Try.prog 4 #[.int .u8 q, .int .u8 f, .int .u8 t, .slice a L.length cap] w fun e w' => e = .returned (.bool true) ∧ Below w.heap.size w w' := by
  obtain ⟨q, rfl, hq⟩ := u8_nat wq
  obtain ⟨f, rfl, hf⟩ := u8_nat wf
  obtain ⟨t, rfl, ht⟩ := u8_nat wt
  clear wq wf wt
  have HGRE := Lib.hid (greatS_any a cap L w hL hz hSl)
  have HS := Lib.hid hSl
  have HLM := Lib.hid hL
  have HAN := Lib.hid ha
  have HCP := Lib.hid hc
  clear hSl hL hz ha hc
  by_cases hg : grS L = true
  · rw [hg] at HGRE
    clear hg
    go_enter Try.func4, Try.ntmps4
    go_wp2_with fail
    refine HGRE.out.mono ?_
    rintro e w1 ⟨rfl, rfl⟩
    go_wp2_with fail
    refine (awake_any _).mono ?_
    rintro e w2 ⟨rfl, hb⟩
    go_wp2
    go_ret
    exact ⟨rfl, hb⟩
  have hg0 : grS L = false := by simpa using hg
  rw [hg0] at HGRE
  obtain ⟨hz8, h67⟩ := grS_false hg0
  have HZ8 := Lib.hid hz8
  obtain ⟨k, hk⟩ : ∃ k : Nat, 2 + q % 14 = k := ⟨_, rfl⟩
  have hk' : (2 + (q : Int) % 14) = (k : Int) := by omega
  have hk2 : 2 ≤ k := by omega
  have hk15 : k ≤ 15 := by omega
  have HK := Lib.hid hk'
  clear hk hk' hz8
  by_cases h0 : ¬ chkW L = 0
  · have hl0 : lenW (k : Int) L = chkW L := lenW_in L hk2 (by omega)
    have HLN := Lib.hid (Lengths_any (k : Int) cap a L HLM.out (fun x hx => Nat.le_trans (HZ8.out x hx) (by decide)) w HS.out)
    rw [hl0] at HLN
    obtain ⟨E, hE⟩ : ∃ E, chkW L = E := ⟨_, rfl⟩
    rw [hE] at HLN h0
    have hne : (E != 0) = true := by simpa using h0
    clear h0 hE hl0
    go_enter Try.func4, Try.ntmps4
    go_wp2_with fail
    rw [HK.out]
    refine HGRE.out.mono ?_
    rintro e w1 ⟨rfl, rfl⟩
    go_wp2_with fail
    refine HLN.out.mono ?_
    rintro e w2 ⟨v2, rfl, -, -, hb2⟩
    have HB2 := Lib.hid hb2
    clear hb2
    go_wp2_with fail
    refine (awake_any _).mono ?_
    rintro e w4 ⟨rfl, hb4⟩
    have HB4 := Lib.hid (bstep HB2.out hb4)
    clear hb4
    go_wp2
    go_ret
    exact ⟨rfl, HB4.out⟩
  have h0 := Decidable.not_not.1 h0
  obtain ⟨g2, g64, Ws, hWs⟩ := chkW_ok h0
  obtain rfl : L = VL Ws := hWs
  rw [VL_len] at g2 g64 h67 HGRE ⊢
  have hWZ := VL_lt HZ8.out
  have HWZ := Lib.hid hWZ
  obtain ⟨A, rfl⟩ : ∃ A, a = some A := by
    cases a with
    | none => have h9 := congrArg List.length (HAN.out rfl).1; rw [VL_len, List.length_nil] at h9; omega
    | some A => exact ⟨A, rfl⟩
  have hmul : ∀ z ∈ Ws.map (· * (1 + f)), z < 2 ^ 72 := fun z hz => by
    obtain ⟨y, hy, rfl⟩ := List.mem_map.1 hz
    exact Nat.lt_of_le_of_lt (Nat.mul_le_mul_left y (show 1 + f ≤ 256 by omega)) (by have := hWZ y hy; omega)
  have HL1 := Lib.hid (fun W hS => len_own hk2 (by omega) (some A) cap Ws g2 g64 64 (by omega) HWZ.out W hS)
  have HL4 := Lib.hid (fun W hS => len_own (k := k + 1) (by omega) (by omega) (some A) cap Ws g2 g64 64 (by omega) HWZ.out W hS)
  have HL2 := Lib.hid (fun a c W hS => len_own hk2 (by omega) a c (Ws.map (· * (1 + f))) (by rw [List.length_map]; omega) (by rw [List.length_map]; omega) 72 (by omega) hmul W hS)
  rw [lenH_scale hk2 (by omega) (by omega), List.length_map] at HL2
  obtain ⟨T, hT⟩ : ∃ T, t % Ws.length = T := ⟨_, rfl⟩
  have hTl : T < Ws.length := by rw [← hT]; exact Nat.mod_lt _ (by omega)
  have hTI : (t : Int) % Ws.length = (T : Int) := by omega
  have HTI := Lib.hid hTI
  obtain ⟨V, hV⟩ : ∃ V, Ws.drop T ++ Ws.take T = V := ⟨_, rfl⟩
  have hVl : V.length = Ws.length := by rw [← hV]; simp; omega
  have hVZ : ∀ z ∈ V, z < 2 ^ 64 := fun z hz => by
    rw [← hV] at hz
    rcases List.mem_append.1 hz with h | h
    · exact hWZ z (List.mem_of_mem_drop h)
    · exact hWZ z (List.mem_of_mem_take h)
  have HL3 := Lib.hid (fun a c W hS => len_own hk2 (by omega) a c V (by omega) (by omega) 64 (by omega) hVZ W hS)
  have HC1 := Lib.hid (fun v W hS hv => cost_own hk2 (by omega) (some A) cap Ws g2 g64 64 (by omega) HWZ.out v W (lenH k Ws) (lenH_len _ _) (lens_64 hk2 g2 g64) hS hv)
  have HC3 := Lib.hid (fun v W hS hv => cost_own hk2 (by omega) (some A) cap Ws g2 g64 64 (by omega) HWZ.out v W (lenH (k + 1) Ws) (lenH_len _ _) (lens_64 (by omega) g2 g64) hS hv)
  have HC2 := Lib.hid (fun a c v W hS hv => cost_own hk2 (by omega) a c V (by omega) (by omega) 64 (by omega) hVZ v W (lenH k V) (lenH_len _ _) (lens_64 hk2 (by omega) (by omega)) hS hv)
  have hcr : csum V (lenH k V) = csum Ws (lenH k Ws) := by rw [← hV]; exact cost_rot hk2 (by omega) T
  have hcm := cost_more hk2 (Ws := Ws) (by omega)
  rw [hVl] at HL3 HC2
  rw [hcr] at HC2
  have hcl : csum Ws (lenH k Ws) < 2 ^ 200 :=
    Nat.lt_of_lt_of_le (csum_lt (N := 64) (lenH_len k Ws) HWZ.out (fun d hd => Nat.lt_of_le_of_lt (lens_64 hk2 g2 g64 d hd).2 (by omega)) (by omega)) (Nat.pow_le_pow_right (by decide) (by decide))
  have HCM := Lib.hid (show _ ∧ _ from ⟨hcm, hcl⟩)
  obtain ⟨c0, hc0⟩ : ∃ c, csum Ws (lenH k Ws) = c := ⟨_, rfl⟩
  obtain ⟨c1, hc1⟩ : ∃ c, csum Ws (lenH (k + 1) Ws) = c := ⟨_, rfl⟩
  rw [hc0] at HC1 HC2 HCM
  rw [hc1] at HC3 HCM
  have HV := Lib.hid hV
  have HVL := Lib.hid hVl
  have HMF := Lib.hid (fun z (hz : z ∈ Ws) (W : World) => cMulN (x := z) (d := 1 + f) 64 62 (HWZ.out z hz) (by omega) (by decide) (by decide) W)
  have HL4' := Lib.hid (show ∀ W, Sl W (some A) (VL Ws) → Calls Try.prog 11 #[.int .i64 ((k : Int) + 1), .slice (some A) Ws.length cap] W fun e w' => ∃ g c, e = .returned (.tuple #[.slice (some ⟨g, 0, none⟩) Ws.length c, .int .i64 0]) ∧ NR w' g (lenH (k + 1) Ws) ∧ Below W.heap.size W w' from fun W hS => by have := HL4.out W hS; rwa [show ((k + 1 : Nat) : Int) = (k : Int) + 1 by omega] at this)
  have HCC := Lib.hid (show ∀ (Bc : Nat) (W : World), BC W Bc [.slice (some (A.add (T * 2))) (Ws.length - T) (cap - T), .slice (some A) T cap] → Sl W (some A) (VL Ws) →
      Calls Try.prog 17 #[.slice (some ⟨Bc, 0, none⟩) 2 2] W fun e w' => ∃ v, e = .returned v ∧ w'.ownsRow W.heap.size 33 2 v Ws.length (inV (VL V)) ∧ W.grownBy w' none from fun Bc W hB hS => by
    have e1 : (VL (Ws.drop T)).length = Ws.length - T := by rw [VL_len, List.length_drop]
    have e2 : (VL (Ws.take T)).length = T := by rw [VL_len, List.length_take]; omega
    have s1 : Sl W (some (A.add (T * 2))) (VL (Ws.drop T)) := by have := hS.drop T; unfold VL at this ⊢; rwa [← List.map_drop] at this
    have s2 : Sl W (some A) (VL (Ws.take T)) := by have := hS.take T; unfold VL at this ⊢; rwa [← List.map_take] at this
    have := concat_any Bc (A.add (T * 2)) A (cap - T) cap (VL (Ws.drop T)) (VL (Ws.take T)) W (by rw [e1, e2]; exact hB) s1 s2 (by rw [e1, e2]; omega) (by rw [e1, e2]; omega)
    rw [e1, e2, show Ws.length - T + T = Ws.length by omega] at this
    have e3 : VL (Ws.drop T) ++ VL (Ws.take T) = VL V := by rw [← hV]; unfold VL; rw [List.map_append]
    rwa [e3] at this)
  clear hV hVl hVZ hcr hcm hcl hc0 hc1 hT hTI hmul hWZ h0 hg hg0 h67
  obtain ⟨i0, hi0, hz0, hz1, hz2⟩ := info_parts infoI
  go_enter Try.func4, Try.ntmps4
  go_wp2_with fail
  rw [HK.out]
  refine HGRE.out.mono ?_
  rintro e w0 ⟨rfl, rfl⟩
  go_wp2_with fail
  refine (HL1.out _ HS.out).mono ?_
  rintro e w2 ⟨g1, b1, rfl, p1, hb2⟩
  have HG1 := Lib.hid p1
  have HB2 := Lib.hid hb2
  clear p1 hb2
  go_wp2_with fail
  have HBF := Lib.hid (show Below w2.heap.size w2 w2 from Below.refl _ _)
  go_loopg [12, 47] (Ws.length + 1) (fun gg x12 x47 wr => ∃ i : Nat, x47 = .int .i64 (i : Int) ∧ i ≤ Ws.length ∧ Ws.length - i < gg ∧ w2.grownBy wr none ∧ wr.ownsRow w2.heap.size 33 2 x12 i (inV (VL ((Ws.take i).map (· * (1 + f))))))
  case atStart => exact ⟨0, rfl, Nat.zero_le _, by omega, ⟨rfl, rfl, rfl, Nat.le_refl _, fun _ _ _ => rfl⟩, own_nil _ _ _ _⟩
  case round =>
    obtain ⟨i, rfl, hi, hig, hgw, hown⟩ := hrel
    have HGG := Lib.hid hig
    have HGW := Lib.hid hgw
    have HO := Lib.hid hown
    clear hig hgw hown
    by_cases hlt : i < Ws.length
    · have hltI : (i : Int) < Ws.length := by omega
      obtain ⟨z, hz⟩ : ∃ z, Ws[i]? = some z := ⟨Ws[i], List.getElem?_eq_getElem hlt⟩
      obtain ⟨A', eA, d0, d1⟩ := (HS.out.below (HB2.out.grown HGW.out HB2.out.size (fun k e => by cases e))) i _ _ (VL_at hz)
      cases eA
      have HMU := Lib.hid (HMF.out z (List.mem_of_getElem? hz))
      have d2 : wr.cell? ⟨(A.add (i * 2)).block, (A.add (i * 2)).off + 1, none⟩ = some (.string (mg z)) := by rw [addr_next]; exact d1
      have HX := Lib.hid (show inV (VL ((Ws.take (i + 1)).map (· * (1 + f)))) = inV (VL ((Ws.take i).map (· * (1 + f)))) ++ [.bool false, .string (mg (z * (1 + f)))] from by rw [List.take_add_one, hz, List.map_append]; exact inV_VL_snoc _ _)
      have HP := Lib.hid (BC.new wr wr.heap.size #[.bool false, .string (mg z)] 33 rfl)
      have HO1 := Lib.hid (HO.out.alloc (.cells #[.bool false, .string (mg z)] 33))
      have HG1' := Lib.hid (HGW.out.andThen (World.grownBy_alloc wr (.cells #[.bool false, .string (mg z)] 33) none) (fun k e => by cases e))
      clear hz d1
      obtain ⟨v12, rfl⟩ : ∃ X, X = u12 := ⟨_, rfl⟩
      go_wp2_with fail
      obtain ⟨Wa, hWa⟩ : ∃ W, wr.alloc (.cells #[.bool false, .string (mg z)] 33) = W := ⟨_, rfl⟩
      rw [hWa] at HP HO1 HG1' ⊢
      obtain ⟨B14, hB14⟩ : ∃ B, wr.heap.size = B := ⟨_, rfl⟩
      rw [hB14] at HP ⊢
      clear hWa hB14
      refine wp_region_mix [.q [0, 1, 2, 3, 4], .r 5, .r 6, .r 7] [8, 9] (by kernel_rfl) (by kernel_rfl) (by intro d v c a w h; cases d <;> exact h) ?_
      intro X0 hb hz
      have HP0 := Lib.hid (HP.out.below hb)
      have HO2 := Lib.hid (own_grown HO1.out (Below.grows hb) (by simp))
      have HG2 := Lib.hid (HG1'.out.andThen (Below.grows hb) (fun k e => by cases e))
      clear hb hz HP HO1 HG1'
      refine wpMix_q ?_
      simp only [pickO, List.map_cons, List.map_nil, List.getElem?_toArray, List.getElem?_cons_succ, List.getElem?_cons_zero, Option.getD_some]
      haveI := cv_some X0
      have x0 : ∀ u : Cv X0, u.x.cell? ⟨B14, 0, none⟩ = some (.bool false) := fun u => (HP0.out.below u.h).at 0 _ rfl
      have x1 : ∀ u : Cv X0, u.x.cell? ⟨B14, 1, none⟩ = some (.string (mg z)) := fun u => (HP0.out.below u.h).at 1 _ rfl
      iterate 5 (go_big_quiet_step (fail))
      refine wpQuiet_nil ?_
      clear this x0 x1
      refine wpMix_r ?_
      simp only [pickO, List.map_cons, List.map_nil, List.getElem?_toArray, List.getElem?_cons_succ, List.getElem?_cons_zero, Option.getD_some]
      go_wp2_with fail
      rw [show (1 : Int) + f = ((1 + f : Nat) : Int) by omega]
      refine (cOfN (1 + f) (by omega) _).mono ?_
      rintro e w5 ⟨rfl, hb5⟩
      go_wp2_with fail
      refine mixQ_ok hb5 ?_
      have HO3 := Lib.hid (own_grown HO2.out (Below.grows hb5) (by simp))
      have HG3 := Lib.hid (HG2.out.andThen (Below.grows hb5) (fun k e => by cases e))
      clear hb5 HO2 HG2
      refine wpMix_r ?_
      simp only [pickO, List.map_cons, List.map_nil, List.getElem?_toArray, List.getElem?_cons_succ, List.getElem?_cons_zero, Option.getD_some]
      go_wp2_with fail
      refine (HMU.out _).mono ?_
      rintro e w6 ⟨rfl, hb6⟩
      go_wp2_with fail
      refine mixQ_ok hb6 ?_
      have HO4 := Lib.hid (own_grown HO3.out (Below.grows hb6) (by simp))
      have HG4 := Lib.hid (HG3.out.andThen (Below.grows hb6) (fun k e => by cases e))
      clear hb6 HO3 HG3
      refine wpMix_r ?_
      simp only [pickO, List.map_cons, List.map_nil, List.getElem?_toArray, List.getElem?_cons_succ, List.getElem?_cons_zero, Option.getD_some]
      go_wp2_with fail
      refine mixQ_ok ((Below.refl _ _).alloc (Nat.le_refl _) _) ?_
      refine wpMix_nil ?_
      simp only [pickO, List.map_cons, List.map_nil, List.getElem?_toArray, List.getElem?_cons_succ, List.getElem?_cons_zero, Option.getD_some]
      have HSZ := Lib.hid HG4.out.size
      go_wp2_with (at_builtin; refine wpList_append_own_at _ rfl _ _ 22 rfl w2.heap.size 33 i0 (.agg #[.bool false, .string ⟨#[]⟩]) 2 24 Try.underlying22 hi0 hz0 hz1 hz2 rfl (by decide) v12 i (inV (VL ((Ws.take i).map (· * (1 + f))))) rfl (HO4.out.alloc (.cells #[.bool false, .string (mg (z * (1 + f)))] 33)) ⟨w6.heap.size, 0, none⟩ 1 1 [.bool false, .string (mg (z * (1 + f)))] rfl rfl (World.news_of_block (cs := #[.bool false, .string (mg (z * (1 + f)))]) (t := 33) (fr := (0, 0)) (heap_alloc_new w6 _)) (by simp [Value.oneCell']) (by unfold maxLen; omega) (by omega) (by have := HSZ.out; simp; omega) ?_; intro v' w7 hown2 hgrow2 _ _)
      go_roundg (Ws.length - i)
      case rel =>
        refine ⟨i + 1, by go_num, by omega, by omega, ?_, by rw [HX.out]; exact hown2⟩
        exact (HG4.out.andThen (World.grownBy_alloc w6 (.cells #[.bool false, .string (mg (z * (1 + f)))] 33) none) (fun k e => by cases e)).andThen hgrow2 (fun k e => .inl (own_base HO.out e).1)
      case measure => have := HGG.out; omega
    · obtain rfl : i = Ws.length := by omega
      have hB : decide ((Ws.length : Int) < Ws.length) = false := by simp
      obtain ⟨g12, c12, rfl, -, hl12⟩ := HO.out.form (by omega)
      have HOs := Lib.hid (show wr.ownsRow w2.heap.size 33 2 (.slice (some ⟨g12, 0, none⟩) (VL (Ws.map (· * (1 + f)))).length c12) (VL (Ws.map (· * (1 + f)))).length (inV (VL (Ws.map (· * (1 + f))))) from by have := HO.out; rw [List.take_length] at this; rw [VL_len, List.length_map]; exact this)
      have HS3 := Lib.hid (Sl.of_own HOs.out)
      have HB3 := Lib.hid (HB2.out.grown HGW.out HB2.out.size (fun k e => by cases e))
      have HG1a := Lib.hid (HG1.out.below (grown_below HGW.out))
      clear HO HOs HGG HGW
      go_wp2_with fail
      refine (HL2.out _ _ _ HS3.out).mono ?_
      rintro e w4 ⟨g2', b2, rfl, p1, hb4⟩
      have HG2 := Lib.hid p1
      have HG1b := Lib.hid (HG1a.out.below hb4)
      have HB4 := Lib.hid (bstep HB3.out hb4)
      clear p1 hb4 HG1a HB3 HS3
      go_wp2_with fail
      rw [HTI.out]
      have hcp : Ws.length ≤ cap := by have := HCP.out.1; rwa [VL_len] at this
      have hcpI : (Ws.length : Int) ≤ cap := by omega
      have hTc : ¬ cap = T := by omega
      have hTI2 : (T : Int) ≤ Ws.length := by omega
      have hTI3 : (T : Int) ≤ cap := by omega
      have hT0 : (0 : Int) ≤ T := by omega
      refine wp_region_mix [.q [0, 1, 2, 3, 4, 5], .r 6, .r 7, .q [8]] [] (by kernel_rfl) (by kernel_rfl) (by intro d v c a w h; cases d <;> exact h) ?_
      intro X0 hb hz
      have HX0 := Lib.hid hb
      clear hb hz
      refine wpMix_q ?_
      simp only [pickO, List.map_cons, List.map_nil, List.getElem?_toArray, List.getElem?_cons_succ, List.getElem?_cons_zero, Option.getD_some]
      haveI := cv_some X0
      iterate 6 (go_big_quiet_step (fail))
      refine wpQuiet_nil ?_
      clear this
      refine wpMix_r ?_
      simp only [pickO, List.map_cons, List.map_nil, List.getElem?_toArray, List.getElem?_cons_succ, List.getElem?_cons_zero, Option.getD_some]
      go_wp2_with fail
      have hab : Below X0.heap.size X0 (X0.alloc (.cells #[.slice (some (A.add (T * 2))) (Ws.length - T) (cap - T), .slice (some A) T cap] 22)) := (Below.refl _ X0).alloc (Nat.le_refl _) _
      refine mixQ_ok hab ?_
      have HP := Lib.hid (BC.new X0 X0.heap.size #[.slice (some (A.add (T * 2))) (Ws.length - T) (cap - T), .slice (some A) T cap] 22 rfl)
      have HB5 := Lib.hid (bstep (bstep HB4.out HX0.out) hab)
      have HG1c := Lib.hid ((HG1b.out.below HX0.out).below hab)
      have HG2c := Lib.hid ((HG2.out.below HX0.out).below hab)
      obtain ⟨W5, hW5⟩ : ∃ W, X0.alloc (.cells #[.slice (some (A.add (T * 2))) (Ws.length - T) (cap - T), .slice (some A) T cap] 22) = W := ⟨_, rfl⟩
      rw [hW5] at HP HB5 HG1c HG2c ⊢
      clear hW5 hab HB4 HG1b HG2
      refine wpMix_r ?_
      simp only [pickO, List.map_cons, List.map_nil, List.getElem?_toArray, List.getElem?_cons_succ, List.getElem?_cons_zero, Option.getD_some]
      go_wp2_with fail
      refine (HCC.out _ W5 HP.out (HS.out.below HB5.out)).mono ?_
      rintro e w6 ⟨v18, rfl, hrow, hgr⟩
      have HB6 := Lib.hid (bstep HB5.out (grown_below hgr))
      have HG1d := Lib.hid (HG1c.out.below (grown_below hgr))
      have HG2d := Lib.hid (HG2c.out.below (grown_below hgr))
      obtain ⟨g18, c18, rfl, -, hl18⟩ := hrow.form (by omega)
      have HSV := Lib.hid (show Sl w6 (some ⟨g18, 0, none⟩) (VL V) from Sl.of_own (c := c18) (by rw [VL_len, HVL.out]; exact hrow))
      go_wp2_with fail
      refine mixQ_ok (grown_below hgr) ?_
      clear hrow hgr HB5 HG1c HG2c HP
      refine wpMix_q ?_
      simp only [pickO, List.map_cons, List.map_nil, List.getElem?_toArray, List.getElem?_cons_succ, List.getElem?_cons_zero, Option.getD_some]
      haveI := cv_some w6
      iterate 1 (go_big_quiet_step (fail))
      refine wpQuiet_nil ?_
      clear this
      refine wpMix_nil ?_
      simp only [pickO, List.map_cons, List.map_nil, List.getElem?_toArray, List.getElem?_cons_succ, List.getElem?_cons_zero, Option.getD_some]
      go_wp2_with fail
      refine (HL3.out _ _ _ HSV.out).mono ?_
      rintro e w7 ⟨g19, c19, rfl, p1, hb7⟩
      have HG3e := Lib.hid p1
      have HG1e := Lib.hid (HG1d.out.below hb7)
      have HG2e := Lib.hid (HG2d.out.below hb7)
      have HSV7 := Lib.hid (HSV.out.below hb7)
      have HB7 := Lib.hid (bstep HB6.out hb7)
      clear p1 hb7 HB6 HG1d HG2d HSV
      go_wp2_with fail
      refine (HL4'.out _ (HS.out.below HB7.out)).mono ?_
      rintro e w8 ⟨g21, c21, rfl, p1, hb8⟩
      have HG4f := Lib.hid p1
      have HG1f := Lib.hid (HG1e.out.below hb8)
      have HG2f := Lib.hid (HG2e.out.below hb8)
      have HG3f := Lib.hid (HG3e.out.below hb8)
      have HSV8 := Lib.hid (HSV7.out.below hb8)
      have HB8 := Lib.hid (bstep HB7.out hb8)
      clear p1 hb8 HB7 HG1e HG2e HG3e HSV7
      go_wp2_with fail
      refine (eqNat_any (lenH_len k Ws) (lenH_len k Ws) (by omega) HG1f.out HG2f.out).mono ?_
      rintro e w9 ⟨rfl, hb9⟩
      rw [decide_eq_true (show lenH k Ws = lenH k Ws from rfl)]
      have HG1g := Lib.hid (HG1f.out.below hb9)
      have HG3g := Lib.hid (HG3f.out.below hb9)
      have HG4g := Lib.hid (HG4f.out.below hb9)
      have HSV9 := Lib.hid (HSV8.out.below hb9)
      have HB9 := Lib.hid (bstep HB8.out hb9)
      clear hb9 HB8 HG1f HG2f HG3f HG4f HSV8
      go_wp2_with fail
      refine (HC1.out _ _ (HS.out.below HB9.out) (HG1g.out.row (lenH_len k Ws).symm)).mono ?_
      rintro e w10 ⟨rfl, hb10⟩
      have hbA := bstep hb10 ((Below.refl _ w10).alloc (Nat.le_refl _) (.cells #[.bool false, .string (mg c0)] 33))
      have HG3h := Lib.hid (HG3g.out.below hbA)
      have HG4h := Lib.hid (HG4g.out.below hbA)
      have HSVh := Lib.hid (HSV9.out.below hbA)
      have HBh := Lib.hid (bstep HB9.out hbA)
      have HP23 := Lib.hid (BC.new w10 w10.heap.size #[.bool false, .string (mg c0)] 33 rfl)
      obtain ⟨W10, hW10⟩ : ∃ W, w10.alloc (.cells #[.bool false, .string (mg c0)] 33) = W := ⟨_, rfl⟩
      obtain ⟨B23, hB23⟩ : ∃ B, w10.heap.size = B := ⟨_, rfl⟩
      rw [hW10] at HG3h HG4h HSVh HBh HP23
      rw [hB23] at HP23
      clear hb10 hbA HB9 HG1g HG3g HG4g HSV9
      go_wp2_with fail
      clear hW10 hB23
      refine (HC2.out _ _ _ _ HSVh.out (HG3h.out.row ((lenH_len k V).trans HVL.out).symm)).mono ?_
      rintro e w11 ⟨rfl, hb11⟩
      have hbA := bstep hb11 ((Below.refl _ w11).alloc (Nat.le_refl _) (.cells #[.bool false, .string (mg c0)] 33))
      have HG4i := Lib.hid (HG4h.out.below hbA)
      have HBi := Lib.hid (bstep HBh.out hbA)
      have HP23i := Lib.hid (HP23.out.below hbA)
      have HP25 := Lib.hid (BC.new w11 w11.heap.size #[.bool false, .string (mg c0)] 33 rfl)
      obtain ⟨W11, hW11⟩ : ∃ W, w11.alloc (.cells #[.bool false, .string (mg c0)] 33) = W := ⟨_, rfl⟩
      obtain ⟨B25, hB25⟩ : ∃ B, w11.heap.size = B := ⟨_, rfl⟩
      rw [hW11] at HG4i HBi HP23i HP25
      rw [hB25] at HP25
      clear hb11 hbA HBh HG3h HG4h HSVh HP23
      go_wp2_with fail
      clear hW11 hB25
      refine (HC3.out _ _ (HS.out.below HBi.out) (HG4i.out.row (lenH_len (k + 1) Ws).symm)).mono ?_
      rintro e w12 ⟨rfl, hb12⟩
      have hbA := bstep hb12 ((Below.refl _ w12).alloc (Nat.le_refl _) (.cells #[.bool false, .string (mg c1)] 33))
      have HBj := Lib.hid (bstep HBi.out hbA)
      have HP23j := Lib.hid (HP23i.out.below hbA)
      have HP25j := Lib.hid (HP25.out.below hbA)
      have HP27 := Lib.hid (BC.new w12 w12.heap.size #[.bool false, .string (mg c1)] 33 rfl)
      obtain ⟨W12, hW12⟩ : ∃ W, w12.alloc (.cells #[.bool false, .string (mg c1)] 33) = W := ⟨_, rfl⟩
      obtain ⟨B27, hB27⟩ : ∃ B, w12.heap.size = B := ⟨_, rfl⟩
      rw [hW12] at HBj HP23j HP25j HP27
      rw [hB27] at HP27
      clear hb12 hbA HBi HG4i HP23i HP25
      have x0 := HP23j.out.at 0 _ rfl
      have x1 := HP23j.out.at 1 _ rfl
      have x2 := HP25j.out.at 0 _ rfl
      have x3 := HP25j.out.at 1 _ rfl
      have x4 := HP27.out.at 0 _ rfl
      have x5 := HP27.out.at 1 _ rfl
      have heq : eqI false (mg c0) false (mg c0) = true := eqI_iff.2 ⟨rfl, rfl⟩
      have hle : cmpI (c1 : Int) (c0 : Int) ≤ 0 := by have := HCM.out.1; unfold cmpI; split; · decide
                                                      · rw [if_neg (by omega)]; decide
      obtain ⟨cm, hcm⟩ : ∃ cm, cmpI (c1 : Int) (c0 : Int) = cm := ⟨_, rfl⟩
      have HCP2 := Lib.hid (fun W => cCmpN (x := c1) (d := c0) 200 200 (Nat.lt_of_le_of_lt HCM.out.1 HCM.out.2) HCM.out.2 (by decide) (by decide) W)
      rw [hcm] at HCP2 hle
      clear hcm
      go_wp2_with fail
      clear hW12 hB27
      refine (HCP2.out _).mono ?_
      rintro e w13 ⟨rfl, hb13⟩
      have HBk := Lib.hid (bstep HBj.out hb13)
      clear hb13 x0 x1 x2 x3 x4 x5
      go_wp2_with fail
      refine (awake_any _).mono ?_
      rintro e w14 ⟨rfl, hb14⟩
      have HBl := Lib.hid (bstep HBk.out hb14)
      clear hb14
      go_wp2
      go_ret
      exact ⟨rfl, HBl.out⟩
end Go.Proofs.Gv
