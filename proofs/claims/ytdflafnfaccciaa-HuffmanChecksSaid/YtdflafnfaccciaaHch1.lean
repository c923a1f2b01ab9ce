/- huffman.Check's condition: no other free node is less than one of the two. -/
import Derived.Test.YtdflafnfaccciaaHjoB
import Derived.Test.YtdflafnfaccciaaHlea
import Derived.Test.YtdflafnfaccciaaFront
import Derived.Test.YtdflafnfaccciaaMix
set_option linter.unusedSimpArgs false
set_option linter.unusedVariables false
namespace Go.Proofs.Gv
open Go Go.RowKit Go.Maps

theorem RIz {v : Value} {z : Nat} {ps : List MemPlace} (h : RI v = some (.lit (.int .i64 (z : Int)), ps)) : v = VN z := by
  obtain ⟨y, rfl, e⟩ := RI_inv h
  simp at e
  rw [show y = z by omega]
def wt (l : List (Nat × Bool)) (x : Int) : Option (DataW Unit) := if 0 ≤ x ∧ x < l.length then some (.lit (.int .i64 (wAt l x.toNat : Nat))) else none
abbrev MI (W : World) (b n sz : Nat) (f : Int → Option (DataW Unit)) : Prop := KM Try.prog 3 RI klI W b n sz f
theorem MI.look {W : World} {b n sz : Nat} {l : List (Nat × Bool)} (h : MI W b n sz (wt l)) {i : Nat} (hi : i < l.length) (hl : l.length ≤ 1000000) :
    (Instr.lookup 57 (.map (some b)) (.int .i64 (i : Int)) false).run Try.prog W = .ok (.agg #[.bool false, .string (mg (wAt l i))]) W := by
  obtain ⟨v, ps, h1, h2⟩ := KM.look h lawI Try.underlying57 (zeroI W) (RI_mk 0) (x := (i : Int)) (keyI (wfN (n := i) (by omega)))
  have : wt l (i : Int) = some (.lit (.int .i64 (wAt l i : Nat))) := by unfold wt; rw [if_pos (by omega), Int.toNat_natCast]
  rw [this] at h2
  rw [h1, RIz h2]
  rfl
/-- The box and the map of all weights. -/
structure JC (Bw bw : Nat) (l : List (Nat × Bool)) (W : World) : Prop where
  box : BC W Bw [.map (some bw)]
  mp : ∃ n sz, n ≤ l.length ∧ MI W bw n sz (wt l)
  bd : ∀ i, wAt l i < 2 ^ (64 + l.length)
theorem JC.grown {Bw bw : Nat} {l : List (Nat × Bool)} {W W' : World} {row : Option Nat} (h : JC Bw bw l W) (hg : W.grownBy W' row) (h1 : some Bw ≠ row) (h2 : some bw ≠ row) : JC Bw bw l W' := by
  obtain ⟨n, sz, hn, hm⟩ := h.mp
  exact ⟨h.box.grown hg h1, ⟨n, sz, hn, hm.kept hg h2⟩, h.bd⟩
theorem wAt_joinL (l : List (Nat × Bool)) (i j k : Nat) : wAt (joinL l i j) k = wAt l k := by
  unfold wAt joinL
  by_cases h1 : j = k
  · subst h1
    by_cases h2 : j < (l.set i (wAt l i, false)).length
    · rw [List.getElem?_set_self h2]
      rw [List.length_set] at h2
      unfold wAt
      rw [List.getElem?_eq_getElem h2]; rfl
    · rw [List.getElem?_eq_none (by simpa using h2)]
      rw [List.length_set] at h2
      rw [List.getElem?_eq_none (by omega)]
  · rw [List.getElem?_set_ne h1]
    by_cases h3 : i = k
    · subst h3
      by_cases h2 : i < l.length
      · rw [List.getElem?_set_self h2]
        unfold wAt
        rw [List.getElem?_eq_getElem h2]; rfl
      · rw [List.getElem?_eq_none (by simpa using h2), List.getElem?_eq_none (by omega)]
    · rw [List.getElem?_set_ne h3]
theorem wAt_snoc (l : List (Nat × Bool)) (s k : Nat) : wAt (l ++ [(s, true)]) k = if k = l.length then s else wAt l k := by
  unfold wAt
  rcases Nat.lt_trichotomy k l.length with h | h | h
  · rw [List.getElem?_append_left h, if_neg (by omega)]
  · subst h; simp
  · rw [List.getElem?_eq_none (by simp; omega), List.getElem?_eq_none (by omega), if_neg (by omega)]
theorem wAt_step (l : List (Nat × Bool)) (i j k : Nat) : wAt (stepJ l ((i : Int), (j : Int))) k = if k = l.length then wAt l i + wAt l j else wAt l k := by
  unfold stepJ
  simp only [Int.toNat_natCast]
  rw [wAt_snoc, joinL_len, wAt_joinL]
theorem wt_step (l : List (Nat × Bool)) (i j : Nat) (y : Int) : wt (stepJ l ((i : Int), (j : Int))) y = if y = (l.length : Int) then some (.lit (.int .i64 ((wAt l i + wAt l j : Nat) : Int))) else wt l y := by
  unfold wt
  rw [stepJ_len]
  by_cases h : y = (l.length : Int)
  · rw [if_pos h, if_pos (by omega), wAt_step, if_pos (by omega)]
  · rw [if_neg h]
    by_cases h2 : 0 ≤ y ∧ y < l.length
    · rw [if_pos h2, if_pos (by omega), wAt_step, if_neg (by omega)]
    · rw [if_neg h2, if_neg (by omega)]
/-- A free node, not one of the two, that is less than one of the two. -/
def badK (l : List (Nat × Bool)) (i j : Nat) (k : Int) : Bool := freeI l k && decide (k ≠ i) && decide (k ≠ j) && (decide (wAt l k.toNat < wAt l i) || decide (wAt l k.toNat < wAt l j))
theorem lessB_true {l : List (Nat × Bool)} {i j : Nat} (hi : i < l.length) (hj : j < l.length) {k : Int} (h : badK l i j k = true) : lessB l i j = true := by
  unfold badK at h
  simp only [Bool.and_eq_true, decide_eq_true_eq] at h
  obtain ⟨⟨⟨h1, h2⟩, h3⟩, h4⟩ := h
  obtain ⟨m, rfl, hm⟩ := freeI_spec h1
  have hf : freeI (joinL l i j) (m : Int) = true := by rw [freeI_joinL hi hj, h1]; simp; omega
  obtain ⟨m', e, hm'⟩ := freeI_spec hf
  obtain rfl : m = m' := by omega
  unfold lessB
  rw [List.any_eq_true]
  refine ⟨_, List.mem_of_getElem? hm', ?_⟩
  rw [wAt_joinL]
  simpa using h4
theorem lessB_false {l : List (Nat × Bool)} {i j : Nat} (hi : i < l.length) (hj : j < l.length) (h : ∀ k, badK l i j k = false) : lessB l i j = false := by
  unfold lessB
  rw [List.any_eq_false]
  rintro ⟨u, f⟩ hx
  obtain ⟨m, hm⟩ := List.getElem?_of_mem hx
  have hk := h (m : Int)
  cases f with
  | false => simp
  | true =>
    have hf : freeI (joinL l i j) (m : Int) = true := freeI_of hm
    rw [freeI_joinL hi hj] at hf
    have hw : wAt l m = u := by rw [← wAt_joinL l i j m, wAt_of hm]
    unfold badK at hk
    simp only [Int.toNat_natCast, hw] at hk
    rw [hf] at hk
    simpa using hk
theorem cmp_neg (x y : Nat) : decide (cmpI (x : Int) (y : Int) < 0) = decide (x < y) := by
  unfold cmpI
  by_cases h : x < y
  · rw [if_pos (show (x : Int) < y by omega)]; simp [h]
  · by_cases h2 : y < x
    · rw [if_neg (show ¬ (x : Int) < y by omega), if_pos (show (y : Int) < x by omega)]; simp; omega
    · rw [if_neg (show ¬ (x : Int) < y by omega), if_neg (show ¬ (y : Int) < x by omega)]; simp; omega
/-- What the condition answers. -/
def ChkPost (Bw bw : Nat) (l : List (Nat × Bool)) (i j : Nat) (W : World) (e : Ending) (w' : World) : Prop :=
  e = .returned (.bool (!lessB l i j)) ∧ JC Bw bw (stepJ l ((i : Int), (j : Int))) w' ∧ W.grownBy w' (some bw)
set_option maxRecDepth 100000 in
set_option maxHeartbeats 8000000 in
theorem chk1_any (Bw bw b n sz : Nat) (l : List (Nat × Bool)) (i j : Nat) (hl : l.length ≤ 10000) (hi : i < l.length) (hj : j < l.length) (W : World) (hJ : JC Bw bw l W) (hM : MB W b n sz (fr l)) (hbb : b ≠ bw) (hbB : Bw ≠ bw) :
    Calls Try.prog 26 #[.map (some b), .int .i64 (l.length : Int), .agg #[.int .i64 (i : Int), .int .i64 (j : Int)], .pointer (some ⟨Bw, 0, none⟩)] W (ChkPost Bw bw l i j W) := by
  obtain ⟨nw, sw, hnw, hmw⟩ := hJ.mp
  have HBX := Lib.hid hJ.box
  have HBD := Lib.hid hJ.bd
  have HMW := Lib.hid hmw
  have HMB := Lib.hid hM
  have HNE := Lib.hid (show b ≠ bw ∧ Bw ≠ bw from ⟨hbb, hbB⟩)
  have HIJ := Lib.hid (show i < l.length ∧ j < l.length ∧ nw ≤ l.length from ⟨hi, hj, hnw⟩)
  have HLL := Lib.hid hl
  have HA := Lib.hid ((Below.refl W.heap.size W).alloc (Nat.le_refl _) (.cells #[.int .i64 (i : Int), .int .i64 (j : Int)] 43))
  have HP6 := Lib.hid (BC.new W W.heap.size #[.int .i64 (i : Int), .int .i64 (j : Int)] 43 rfl)
  clear hJ hM hbb hbB hi hj hnw hmw hl
  go_enter Try.func26, Try.ntmps26
  go_wp2_with fail
  obtain ⟨W0, hW0⟩ : ∃ X, W.alloc (.cells #[.int .i64 (i : Int), .int .i64 (j : Int)] 43) = X := ⟨_, rfl⟩
  obtain ⟨B6, hB6⟩ : ∃ B, W.heap.size = B := ⟨_, rfl⟩
  rw [hW0] at HA HP6 ⊢
  rw [hB6] at HP6 ⊢
  have HBX0 := Lib.hid (HBX.out.below HA.out)
  have HMW0 := Lib.hid (HMW.out.below HA.out)
  have HO6 := Lib.hid (show Bw < B6 ∧ b < B6 ∧ bw < B6 from by rw [← hB6]; exact ⟨HBX.out.lt, HMB.out.lt, HMW.out.lt⟩)
  clear hW0 hB6
  obtain ⟨wi, hwi⟩ : ∃ x, wAt l i = x := ⟨_, rfl⟩
  obtain ⟨wj, hwj⟩ : ∃ x, wAt l j = x := ⟨_, rfl⟩
  have HWI := Lib.hid (show wAt l i = wi ∧ wAt l j = wj from ⟨hwi, hwj⟩)
  clear hwi hwj
  refine wp_region_front 12 zvI (by kernel_rfl) shI (by kernel_rfl) (by kernel_rfl) (zvI_alloc _ (by kernel_rfl)) (shI_store _ (by kernel_rfl)) ?_
  intro mm BW hm1 hm2 hBW
  haveI := clm_some mm BW
  have f0 := fun u : Clm mm BW => u.cell hm1 hBW (HP6.out.at 0 _ rfl)
  have f1 := fun u : Clm mm BW => u.cell hm1 hBW (HP6.out.at 1 _ rfl)
  have f2 := fun u : Clm mm BW => u.cell hm1 hBW (HBX0.out.at 0 _ rfl)
  have f3 : ∀ u : Clm mm BW, (Instr.lookup 57 (.map (some bw)) (.int .i64 (i : Int)) false).run Try.prog u.x = .ok (.agg #[.bool false, .string (mg wi)]) u.x := fun u => by
    have := MI.look (HMW0.out.below (u.old hm1 hBW)) HIJ.out.1 (by have := HLL.out; omega)
    rwa [HWI.out.1] at this
  have f4 : ∀ u : Clm mm BW, (Instr.lookup 57 (.map (some bw)) (.int .i64 (j : Int)) false).run Try.prog u.x = .ok (.agg #[.bool false, .string (mg wj)]) u.x := fun u => by
    have := MI.look (HMW0.out.below (u.old hm1 hBW)) HIJ.out.2.1 (by have := HLL.out; omega)
    rwa [HWI.out.2] at this
  simp only [frontOf, unmade, List.take_succ_cons, List.take_zero, List.map_cons, List.map_nil]
  iterate 12 (go_big_quiet_step (fail))
  refine wpQuiet_nil ?_
  refine ⟨List.forall_mem_cons.2 ⟨by kernel_rfl, List.forall_mem_cons.2 ⟨by kernel_rfl, List.forall_mem_nil _⟩⟩, ?_⟩
  intro γ w1 hb hF
  clear hBW this hm1 hm2 f0 f1 f2 f3 f4
  clear BW mm
  simp only [madesFrom, Facts, patch, List.take_succ_cons, List.take_zero, List.drop_succ_cons, List.drop_zero, Nat.zero_add, Nat.reduceAdd, List.mem_cons, List.not_mem_nil, or_false, forall_eq, forall_eq_or_imp, false_imp_iff, implies_true, and_true] at hF ⊢
  obtain ⟨⟨hp8, hl8, hk8, hn8⟩, hp9, hl9, hk9⟩ := hF
  obtain ⟨B8, hG8⟩ : ∃ B, γ 8 = B := ⟨_, rfl⟩
  obtain ⟨B9, hG9⟩ : ∃ B, γ 9 = B := ⟨_, rfl⟩
  rw [hG8] at hp8 hl8 hk8 ⊢
  rw [hG9] at hp9 hl9 hk9 ⊢
  clear hG8 hG9 hn8 γ
  have HP8 := Lib.hid (show BC w1 B8 [.bool false, .string (mg wi)] from BC.of hk8)
  have HP9 := Lib.hid (show BC w1 B9 [.bool false, .string (mg wj)] from BC.of hk9)
  have HP61 := Lib.hid (HP6.out.below hb)
  have HBX1 := Lib.hid (HBX0.out.below hb)
  have HMW1 := Lib.hid (HMW0.out.below hb)
  have HMB1 := Lib.hid ((HMB.out.below HA.out).below hb)
  have HG1 := Lib.hid ((Below.grows HA.out).andThen (Below.grows hb) (fun k e => by cases e))
  have HO8 := Lib.hid (show bw < B8 ∧ bw < B9 from ⟨Nat.lt_of_lt_of_le (Nat.lt_of_lt_of_le HMW0.out.lt (Nat.le_refl _)) hp8, Nat.lt_of_lt_of_le HMW0.out.lt hp9⟩)
  clear hb hp8 hl8 hk8 hp9 hl9 hk9 HBX0 HMW0 HP6 HA HMB HMW HBX
  try go_frame
  go_wp2_with fail
  refine wp_region_mix [.q [0, 1, 2, 3], .r 4] [5] (by kernel_rfl) (by kernel_rfl) (by intro d v c a w h; cases d <;> exact h) ?_
  intro X0 hb hz
  have HP8a := Lib.hid (HP8.out.below hb)
  have HP9a := Lib.hid (HP9.out.below hb)
  have HP6a := Lib.hid (HP61.out.below hb)
  have HBXa := Lib.hid (HBX1.out.below hb)
  have HMWa := Lib.hid (HMW1.out.below hb)
  have HMBa := Lib.hid (HMB1.out.below hb)
  have HGa := Lib.hid (HG1.out.andThen (Below.grows hb) (fun k e => by cases e))
  clear hb hz HP8 HP9 HP61 HBX1 HMW1 HMB1 HG1
  refine wpMix_q ?_
  simp only [pickO, List.map_cons, List.map_nil, List.getElem?_toArray, List.getElem?_cons_succ, List.getElem?_cons_zero, Option.getD_some]
  haveI := cv_some X0
  have x0 : ∀ u : Cv X0, u.x.cell? ⟨B8, 0, none⟩ = some (.bool false) := fun u => (HP8a.out.below u.h).at 0 _ rfl
  have x1 : ∀ u : Cv X0, u.x.cell? ⟨B8, 1, none⟩ = some (.string (mg wi)) := fun u => (HP8a.out.below u.h).at 1 _ rfl
  have x2 : ∀ u : Cv X0, u.x.cell? ⟨B9, 0, none⟩ = some (.bool false) := fun u => (HP9a.out.below u.h).at 0 _ rfl
  have x3 : ∀ u : Cv X0, u.x.cell? ⟨B9, 1, none⟩ = some (.string (mg wj)) := fun u => (HP9a.out.below u.h).at 1 _ rfl
  have x4 : ∀ u : Cv X0, u.x.cell? ⟨Bw, 0, none⟩ = some (.map (some bw)) := fun u => (HBXa.out.below u.h).at 0 _ rfl
  iterate 4 (go_big_quiet_step (fail))
  refine wpQuiet_nil ?_
  clear this x0 x1 x2 x3 x4
  refine wpMix_r ?_
  simp only [pickO, List.map_cons, List.map_nil, List.getElem?_toArray, List.getElem?_cons_succ, List.getElem?_cons_zero, Option.getD_some]
  go_wp2_with fail
  have HADD := Lib.hid (fun W => cAddN (x := wi) (d := wj) (64 + l.length) (64 + l.length) (by rw [← HWI.out.1]; exact HBD.out i) (by rw [← HWI.out.2]; exact HBD.out j) (by have := HLL.out; omega) (by have := HLL.out; omega) W)
  refine (HADD.out _).mono ?_
  rintro e w2 ⟨rfl, hb2⟩
  go_wp2_with fail
  refine mixQ_ok hb2 ?_
  have HP8b := Lib.hid (HP8a.out.below hb2)
  have HP9b := Lib.hid (HP9a.out.below hb2)
  have HP6b := Lib.hid (HP6a.out.below hb2)
  have HBXb := Lib.hid (HBXa.out.below hb2)
  have HMWb := Lib.hid (HMWa.out.below hb2)
  have HMBb := Lib.hid (HMBa.out.below hb2)
  have HGb := Lib.hid (HGa.out.andThen (Below.grows hb2) (fun k e => by cases e))
  clear hb2 HP8a HP9a HP6a HBXa HMWa HMBa HGa HADD
  refine wpMix_nil ?_
  simp only [pickO, List.map_cons, List.map_nil, List.getElem?_toArray, List.getElem?_cons_succ, List.getElem?_cons_zero, Option.getD_some]
  go_wp2_with (at_mapUpdate; refine wpList_put_K _ rfl _ _ _ 57 rfl 3 34 lawI klI_inj klI_key Try.underlying57 bw nw _ (wt l) rfl HMWb.out (by have := HIJ.out.2.2; have := HLL.out; unfold maxLen; omega) (.int .i64 (l.length : Int)) (.agg #[.bool false, .string (mg (wi + wj))]) (l.length : Int) rfl rfl (keyI (wfN (by have := HLL.out; omega))) (.lit (.int .i64 ((wi + wj : Nat) : Int))) [] (RI_mk (wi + wj)) ?_; intro w3 hm3 hg3; have HM3 := Lib.hid hm3; have HG3 := Lib.hid hg3; have HMB3 := Lib.hid (HMBb.out.kept hg3 (by simpa using HNE.out.1)); obtain ⟨w4, hrange, hkr, hg4, hs4⟩ := KM.range HMB3.out lawI Try.underlying48; have HKR := Lib.hid hkr; have HG4 := Lib.hid hg4; clear hm3 hg3 hkr hg4 hs4)
  have HP8c := Lib.hid ((HP8b.out.grown HG3.out (by have := HO8.out.1; simp; omega)).grown HG4.out (by simp))
  have HP9c := Lib.hid ((HP9b.out.grown HG3.out (by have := HO8.out.2; simp; omega)).grown HG4.out (by simp))
  have HP6c := Lib.hid ((HP6b.out.grown HG3.out (by have := HO6.out.2.2; simp; omega)).grown HG4.out (by simp))
  have HBXc := Lib.hid ((HBXb.out.grown HG3.out (by simpa using HNE.out.2)).grown HG4.out (by simp))
  have HMWc := Lib.hid (HM3.out.kept HG4.out (by simp))
  have HGc := Lib.hid ((HGb.out.but (some bw)).andThen (HG3.out.andThen HG4.out (fun k e => by cases e)) (fun k e => .inr e))
  have HRB := Lib.hid (show b < w3.heap.size ∧ bw < w3.heap.size ∧ B6 < w3.heap.size ∧ B8 < w3.heap.size ∧ B9 < w3.heap.size ∧ Bw < w3.heap.size ∧ W.heap.size ≤ w3.heap.size from
    ⟨HMB3.out.lt, HM3.out.lt, Nat.lt_of_lt_of_le HP6b.out.lt HG3.out.size, Nat.lt_of_lt_of_le HP8b.out.lt HG3.out.size, Nat.lt_of_lt_of_le HP9b.out.lt HG3.out.size, Nat.lt_of_lt_of_le HBXb.out.lt HG3.out.size, Nat.le_trans HGb.out.size HG3.out.size⟩)
  have HBDS := Lib.hid (show ∀ k, wAt (stepJ l ((i : Int), (j : Int))) k < 2 ^ (64 + (stepJ l ((i : Int), (j : Int))).length) from fun k => by
    rw [stepJ_len, wAt_step, ← Nat.add_assoc, Nat.pow_succ]
    have h1 := HBD.out i
    have h2 := HBD.out j
    have h3 := HBD.out k
    split <;> omega)
  obtain ⟨r, hr⟩ : ∃ r, w3.heap.size = r := ⟨_, rfl⟩
  rw [hr] at HKR HRB ⊢
  have HMWd := Lib.hid (show ∃ n' s', n' ≤ l.length + 1 ∧ MI w4 bw n' s' (wt (stepJ l ((i : Int), (j : Int)))) from ⟨_, _, by have := HIJ.out.2.2; omega, HMWc.out.congr fun y => by rw [wt_step, HWI.out.1, HWI.out.2]⟩)
  have HRN := Lib.hid (show bw ≠ r ∧ B6 ≠ r ∧ B8 ≠ r ∧ B9 ≠ r ∧ Bw ≠ r ∧ W.heap.size ≤ r from by have := HRB.out; omega)
  clear hr hrange HP8b HP9b HP6b HBXb HGb HMBb HMWb HM3 HG3 HMB3 HG4 HMWc
  go_loopg [10] (sz + 1) (fun gg x10 wr => (x10 = x10) ∧ ∃ (left : Int → Bool) (cnt : Nat), cnt < gg ∧ KR Try.prog 3 RB klI wr b r n (fr l) left cnt ∧ (∃ n' s', n' ≤ l.length + 1 ∧ MI wr bw n' s' (wt (stepJ l ((i : Int), (j : Int))))) ∧ BC wr Bw [.map (some bw)] ∧ W.grownBy wr (some bw) ∧ BC wr B8 [.bool false, .string (mg wi)] ∧ BC wr B9 [.bool false, .string (mg wj)] ∧ BC wr B6 [.int .i64 (i : Int), .int .i64 (j : Int)] ∧ ∀ k, badK l i j k = true → left k = true)
  case atStart => exact ⟨rfl, _, sz, Nat.lt_succ_self _, HKR.out, HMWd.out, HBXc.out, HGc.out, HP8c.out, HP9c.out, HP6c.out, fun k hk => by rw [fr_some]; unfold badK at hk; simp only [Bool.and_eq_true] at hk; exact hk.1.1.1⟩
  case round =>
    obtain ⟨-, left, cnt, hcg, hkr, hmw, hbx, hgw, h8, h9, h6, hbk⟩ := hrel
    have HMW := Lib.hid hmw
    have HBX := Lib.hid hbx
    have HGW := Lib.hid hgw
    have HP8 := Lib.hid h8
    have HP9 := Lib.hid h9
    have HP6 := Lib.hid h6
    have HBK0 := Lib.hid hbk
    have hlt := hkr.lt
    have HRW := Lib.hid hlt.1
    rcases KR.next hkr lawI klI_inj klI_key (kv := fun x => Value.int .i64 x) (fun key l' h => by obtain ⟨x, rfl, e, _⟩ := Maps.keyOf_int_inv Try.underlying3 h; exact ⟨x, rfl, e⟩) 0 with ⟨h0, hl0, hnext⟩ | ⟨x, v, d, ps, w5, cnt', hlx, hfx, hv, hnext, hkx, hkr2, hc2, hg2, hs2, hen⟩
    · have HF := Lib.hid (show lessB l i j = false from lessB_false HIJ.out.1 HIJ.out.2.1 fun k => by
        cases hk : badK l i j k with
        | false => rfl
        | true => have := HBK0.out k hk; rw [hl0] at this; cases this)
      clear hkr hmw hbx hgw h8 h9 h6 hbk hlt HKR HMWd HBXc HGc HP8c HP9c HP6c hl0
      go_wp2
      go_ret
      unfold ChkPost
      rw [HF.out]
      obtain ⟨n', s', hn', hm'⟩ := HMW.out
      exact ⟨rfl, ⟨HBX.out, ⟨n', s', by rw [stepJ_len]; exact hn', hm'⟩, HBDS.out⟩, HGW.out⟩
    · obtain ⟨m, rfl, hm⟩ := freeI_spec (show freeI l x = true by rw [← fr_some, hfx]; rfl)
      have hml := (List.getElem?_eq_some_iff.1 hm).1
      have HML := Lib.hid hml
      have HFR := Lib.hid (show freeI l (m : Int) = true from freeI_of hm)
      obtain ⟨n', s', hn', hm'⟩ := hmw
      have HMW2 := Lib.hid (show ∃ n' s', n' ≤ l.length + 1 ∧ MI w5 bw n' s' (wt (stepJ l ((i : Int), (j : Int)))) from ⟨n', s', hn', hm'.kept hg2 (by simpa using HRN.out.1)⟩)
      have HBX2 := Lib.hid (hbx.grown hg2 (by simpa using HRN.out.2.2.2.2.1))
      have HP82 := Lib.hid (h8.grown hg2 (by simpa using HRN.out.2.2.1))
      have HP92 := Lib.hid (h9.grown hg2 (by simpa using HRN.out.2.2.2.1))
      have HP62 := Lib.hid (h6.grown hg2 (by simpa using HRN.out.2.1))
      have HGW2 := Lib.hid (hgw.andThen hg2 (fun k e => .inl (by cases e; exact HRN.out.2.2.2.2.2)))
      have HKR2 := Lib.hid hkr2
      have x6 := HP62.out.at 0 _ rfl
      have x7 := HP62.out.at 1 _ rfl
      clear hbx hgw h8 h9 h6 hkr hkr2 hlt hm' hn' hg2 hs2 hlx hfx hv hkx hm hml HKR HMWd HBXc HGc HP8c HP9c HP6c HMW HBX HGW HP8 HP9 HP6
      by_cases hmi : m = i
      · have hB : ((m : Int) != i) = false := by simp; omega
        have HBK := Lib.hid (show ∀ k, badK l i j k = true → (left k && decide (k ≠ (m : Int))) = true from fun k hk => by
          have h1 := hbk k hk
          unfold badK at hk; simp only [Bool.and_eq_true, decide_eq_true_eq] at hk
          simp [h1]; have := hk.1.1.2; omega)
        have HMI := Lib.hid hmi
        clear hbk hmi
        go_wp2_with fail
        go_roundg cnt
        case rel => exact ⟨trivial, _, cnt', hc2, HKR2.out, HMW2.out, HBX2.out, HGW2.out, HP82.out, HP92.out, HP62.out, HBK.out⟩
        case measure => omega
      · have hB : ((m : Int) != i) = true := by simp; omega
        by_cases hmj : m = j
        · have hB2 : ((m : Int) != j) = false := by simp; omega
          have HBK := Lib.hid (show ∀ k, badK l i j k = true → (left k && decide (k ≠ (m : Int))) = true from fun k hk => by
            have h1 := hbk k hk
            unfold badK at hk; simp only [Bool.and_eq_true, decide_eq_true_eq] at hk
            simp [h1]; have := hk.1.2; omega)
          have HMI := Lib.hid hmi
          have HMJ := Lib.hid hmj
          clear hbk hmi hmj
          go_wp2_with fail
          go_roundg cnt
          case rel => exact ⟨trivial, _, cnt', hc2, HKR2.out, HMW2.out, HBX2.out, HGW2.out, HP82.out, HP92.out, HP62.out, HBK.out⟩
          case measure => omega
        · have hB2 : ((m : Int) != j) = true := by simp; omega
          have HMI := Lib.hid (show m ≠ i ∧ m ≠ j from ⟨hmi, hmj⟩)
          have HKB := Lib.hid hbk
          obtain ⟨wm, hwm⟩ : ∃ x, wAt l m = x := ⟨_, rfl⟩
          have HWM := Lib.hid hwm
          have hws : wAt (stepJ l ((i : Int), (j : Int))) m = wm := by rw [wAt_step, if_neg (by have := HML.out; omega)]; exact hwm
          have HLK := Lib.hid (fun (X : World) (h : ∃ n' s', n' ≤ l.length + 1 ∧ MI X bw n' s' (wt (stepJ l ((i : Int), (j : Int))))) => show (Instr.lookup 57 (.map (some bw)) (.int .i64 (m : Int)) false).run Try.prog X = .ok (.agg #[.bool false, .string (mg wm)]) X from by
            obtain ⟨n', s', _, hm'⟩ := h
            have := MI.look hm' (i := m) (by rw [stepJ_len]; have := HML.out; omega) (by rw [stepJ_len]; have := HLL.out; omega)
            rwa [hws] at this)
          have hbm : wm < 2 ^ (64 + l.length) := by rw [← hwm]; exact HBD.out m
          have hbi : wi < 2 ^ (64 + l.length) := by rw [← HWI.out.1]; exact HBD.out i
          have hbj : wj < 2 ^ (64 + l.length) := by rw [← HWI.out.2]; exact HBD.out j
          have HC1 := Lib.hid (fun X => cCmpN (x := wm) (d := wi) (64 + l.length) (64 + l.length) hbm hbi (by have := HLL.out; omega) (by have := HLL.out; omega) X)
          have HC2 := Lib.hid (fun X => cCmpN (x := wm) (d := wj) (64 + l.length) (64 + l.length) hbm hbj (by have := HLL.out; omega) (by have := HLL.out; omega) X)
          have hn1 := cmp_neg wm wi
          have hn2 := cmp_neg wm wj
          obtain ⟨q1, hq1⟩ : ∃ x, cmpI (wm : Int) (wi : Int) = x := ⟨_, rfl⟩
          obtain ⟨q2, hq2⟩ : ∃ x, cmpI (wm : Int) (wj : Int) = x := ⟨_, rfl⟩
          rw [hq1] at HC1 hn1
          rw [hq2] at HC2 hn2
          have HBD5 := Lib.hid (show badK l i j (m : Int) = (decide (wm < wi) || decide (wm < wj)) from by
            unfold badK
            rw [HFR.out, Int.toNat_natCast, HWM.out, HWI.out.1, HWI.out.2, decide_eq_true (show (m : Int) ≠ i by have := HMI.out.1; omega), decide_eq_true (show (m : Int) ≠ j by have := HMI.out.2; omega)]
            simp)
          have lk := HLK.out w5 HMW2.out
          have x8 := HP82.out.at 0 _ rfl
          have x9 := HP82.out.at 1 _ rfl
          have xw := HBX2.out.at 0 _ rfl
          clear hbk hmi hmj hwm hws hbm hbi hbj hq1 hq2
          go_wp2_with fail
          clear lk x6 x7 x8 x9 xw hnext hen
          refine (HC1.out _).mono ?_
          rintro e w6 ⟨rfl, hb6⟩
          have HMW3 := Lib.hid (show ∃ n' s', n' ≤ l.length + 1 ∧ MI w6 bw n' s' (wt (stepJ l ((i : Int), (j : Int)))) from by obtain ⟨n', s', a, b⟩ := HMW2.out; exact ⟨n', s', a, b.below hb6⟩)
          have HBX3 := Lib.hid (HBX2.out.below hb6)
          have HP83 := Lib.hid (HP82.out.below hb6)
          have HP93 := Lib.hid (HP92.out.below hb6)
          have HP63 := Lib.hid (HP62.out.below hb6)
          have HGW3 := Lib.hid (HGW2.out.andThen (Below.grows hb6) (fun k e => by cases e))
          have HKR3 := Lib.hid (HKR2.out.below hb6)
          clear hb6 HMW2 HBX2 HP82 HP92 HP62 HGW2 HKR2
          by_cases h1 : wm < wi
          · have hB3 : decide (q1 < 0) = true := by rw [hn1]; simpa using h1
            have hB4 : q1 < 0 := by simpa using hB3
            have HF := Lib.hid (show lessB l i j = true from lessB_true HIJ.out.1 HIJ.out.2.1 (k := (m : Int)) (by rw [HBD5.out]; simp [h1]))
            clear h1 hn1 hn2 hB3
            go_wp2
            go_ret
            unfold ChkPost
            rw [HF.out]
            obtain ⟨n', s', hn', hm'⟩ := HMW3.out
            exact ⟨rfl, ⟨HBX3.out, ⟨n', s', by rw [stepJ_len]; exact hn', hm'⟩, HBDS.out⟩, HGW3.out⟩
          · have hB3 : decide (q1 < 0) = false := by rw [hn1]; simpa using h1
            have lk := HLK.out w6 HMW3.out
            have x8 := HP93.out.at 0 _ rfl
            have x9 := HP93.out.at 1 _ rfl
            have xw := HBX3.out.at 0 _ rfl
            have HN1 := Lib.hid h1
            clear h1 hn1
            go_wp2_with fail
            clear lk x8 x9 xw
            refine (HC2.out _).mono ?_
            rintro e w7 ⟨rfl, hb7⟩
            have HMW4 := Lib.hid (show ∃ n' s', n' ≤ l.length + 1 ∧ MI w7 bw n' s' (wt (stepJ l ((i : Int), (j : Int)))) from by obtain ⟨n', s', a, b⟩ := HMW3.out; exact ⟨n', s', a, b.below hb7⟩)
            have HBX4 := Lib.hid (HBX3.out.below hb7)
            have HP84 := Lib.hid (HP83.out.below hb7)
            have HP94 := Lib.hid (HP93.out.below hb7)
            have HP64 := Lib.hid (HP63.out.below hb7)
            have HGW4 := Lib.hid (HGW3.out.andThen (Below.grows hb7) (fun k e => by cases e))
            have HKR4 := Lib.hid (HKR3.out.below hb7)
            clear hb7 HMW3 HBX3 HP83 HP93 HP63 HGW3 HKR3
            by_cases h2 : wm < wj
            · have hB5 : decide (q2 < 0) = true := by rw [hn2]; simpa using h2
              have hB6 : q2 < 0 := by simpa using hB5
              have HF := Lib.hid (show lessB l i j = true from lessB_true HIJ.out.1 HIJ.out.2.1 (k := (m : Int)) (by rw [HBD5.out]; simp [h2]))
              clear h2 hn2 hB5
              go_wp2
              go_ret
              unfold ChkPost
              rw [HF.out]
              obtain ⟨n', s', hn', hm'⟩ := HMW4.out
              exact ⟨rfl, ⟨HBX4.out, ⟨n', s', by rw [stepJ_len]; exact hn', hm'⟩, HBDS.out⟩, HGW4.out⟩
            · have hB5 : decide (q2 < 0) = false := by rw [hn2]; simpa using h2
              have HBK := Lib.hid (show ∀ k, badK l i j k = true → (left k && decide (k ≠ (m : Int))) = true from fun k hk => by
                have h3 := HKB.out k hk
                by_cases hkm : k = (m : Int)
                · rw [hkm, HBD5.out] at hk
                  have := HN1.out
                  simp [h2, this] at hk
                · simp [h3, hkm])
              clear h2 hn2
              go_wp2_with fail
              go_roundg cnt
              case rel => exact ⟨trivial, _, cnt', hc2, HKR4.out, HMW4.out, HBX4.out, HGW4.out, HP84.out, HP94.out, HP64.out, HBK.out⟩
              case measure => omega
end Go.Proofs.Gv
