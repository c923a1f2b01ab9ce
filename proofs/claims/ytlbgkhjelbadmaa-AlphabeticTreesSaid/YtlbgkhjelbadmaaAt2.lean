/- The reference's cost: least cost and depths. -/
import Derived.Test.YtlbgkhjelbadmaaAcpP
set_option linter.unusedSimpArgs false
set_option linter.unusedVariables false
namespace Go.Proofs.Gv
open Go Go.RowKit Go.Maps

theorem alD_fuel : ∀ (f g : Nat) (W : List Nat), W.length ≤ f → W.length ≤ g → alD f W = alD g W
  | 0, g, W, h, _ => by
    cases g with
    | zero => rfl
    | succ g => simp only [alD]; rw [if_pos (by omega)]
  | f + 1, 0, W, _, h => by simp only [alD]; rw [if_pos (by omega)]
  | f + 1, g + 1, W, hf, hg => by
    by_cases h1 : W.length ≤ 1
    · simp only [alD]; rw [if_pos h1, if_pos h1]
    · simp only [alD]
      rw [if_neg h1, if_neg h1, alK_eq hf h1, alK_eq hg h1]
      have hk := (minK_spec (spl W) (W.length - 2)).1
      obtain ⟨J, hJ⟩ : ∃ J, (minK (spl W) (W.length - 2)).1 = J := ⟨_, rfl⟩
      rw [hJ] at hk ⊢
      rw [alD_fuel f g (W.take (J + 1)) (by rw [List.length_take]; omega) (by rw [List.length_take]; omega), alD_fuel f g (W.drop (J + 1)) (by rw [List.length_drop]; omega) (by rw [List.length_drop]; omega)]
/-- The depths of the tree that parts behind weight j. -/
def dB (W : List Nat) (j : Nat) : List Nat := (alD (W.take (j + 1)).length (W.take (j + 1))).map (· + 1) ++ (alD (W.drop (j + 1)).length (W.drop (j + 1))).map (· + 1)
theorem alD_own {W : List Nat} (h : ¬ W.length ≤ 1) : alD W.length W = dB W (minK (spl W) (W.length - 2)).1 := by
  obtain ⟨f, hf⟩ : ∃ f, W.length = f + 1 := ⟨W.length - 1, by omega⟩
  have hk := (minK_spec (spl W) (W.length - 2)).1
  rw [hf]
  simp only [alD]
  rw [if_neg h, alK_eq (by omega) h]
  obtain ⟨J, hJ⟩ : ∃ J, (minK (spl W) (W.length - 2)).1 = J := ⟨_, rfl⟩
  rw [← hf, hJ]
  rw [hJ] at hk
  unfold dB
  rw [alD_fuel f _ (W.take (J + 1)) (by rw [List.length_take]; omega) (Nat.le_refl _), alD_fuel f _ (W.drop (J + 1)) (by rw [List.length_drop]; omega) (Nat.le_refl _)]
theorem alD_le {W : List Nat} (h : 1 ≤ W.length) : ∀ d ∈ alD W.length W, d + 1 ≤ W.length := (alD_spec W.length W (Nat.le_refl _) h).2.2.2.2
theorem alc_lt1 {Ws : List Nat} (h64 : Ws.length ≤ 64) (hz : ∀ z ∈ Ws, z < 2 ^ 64) : alc Ws < 2 ^ 136 := by
  by_cases h1 : Ws.length ≤ 1
  · rw [alc_one h1]; exact Nat.pow_pos (by decide)
  · exact alc_lt (by omega) h64 hz
theorem Sl.take {W : World} {A : Addr} {Ws : List Nat} (h : Sl W (Option.some A) (VL Ws)) (k : Nat) : Sl W (Option.some A) (VL (Ws.take k)) := fun i n s hi => h i n s (by
  unfold VL at hi ⊢
  rw [List.getElem?_map] at hi ⊢
  rw [List.getElem?_take] at hi
  split at hi
  · exact hi
  · cases hi)
theorem addA (A : Addr) (k i : Nat) : (A.add k).add i = A.add (k + i) := by
  unfold Addr.add
  by_cases h : k = 0 <;> by_cases h2 : i = 0 <;> simp [h, h2, Nat.add_assoc]
theorem Sl.drop {W : World} {A : Addr} {Ws : List Nat} (h : Sl W (Option.some A) (VL Ws)) (k : Nat) : Sl W (Option.some (A.add (k * 2))) (VL (Ws.drop k)) := fun i n s hi => by
  obtain ⟨A', e, c0, c1⟩ := h (k + i) n s (by
    unfold VL at hi ⊢
    rw [List.getElem?_map] at hi ⊢
    rwa [List.getElem?_drop] at hi)
  cases e
  refine ⟨_, rfl, ?_, ?_⟩
  · rw [addA, ← Nat.add_mul]; exact c0
  · rw [addA, ← Nat.add_assoc, ← Nat.add_mul]; exact c1
/-- What the reference's cost answers. -/
def CoQ (Ws : List Nat) (w : World) (e : Ending) (w' : World) : Prop :=
  ∃ v, e = .returned (.tuple #[.agg #[.bool false, .string (mg (alc Ws))], v]) ∧ NR2 w' v (alD Ws.length Ws) ∧ Below w.heap.size w w'
def bsS (W : List Nat) (S k : Nat) : Nat := S + (minK (spl W) (k - 2)).2
def BsI (W : List Nat) (S k : Nat) (x : World) (st : ByteArray) (v7 : Value) : Prop := 2 ≤ k → st = mg (bsS W S k) ∧ NR2 x v7 (dB W (minK (spl W) (k - 2)).1)
theorem spl_lt {W : List Nat} (h64 : W.length ≤ 64) (hz : ∀ z ∈ W, z < 2 ^ 64) (j : Nat) : spl W j < 2 ^ 137 := by
  have h1 := alc_lt1 (Ws := W.take (j + 1)) (by rw [List.length_take]; omega) (fun z h => hz z (List.mem_of_mem_take h))
  have h2 := alc_lt1 (Ws := W.drop (j + 1)) (by rw [List.length_drop]; omega) (fun z h => hz z (List.mem_of_mem_drop h))
  have : (2 : Nat) ^ 137 = 2 ^ 136 + 2 ^ 136 := by decide
  unfold spl
  omega
theorem bsS_lt {W : List Nat} (h64 : W.length ≤ 64) (hz : ∀ z ∈ W, z < 2 ^ 64) {S : Nat} (hS : S < 2 ^ 74) (k : Nat) : bsS W S k < 2 ^ 138 := by
  have h := (minK_spec (spl W) (k - 2)).2.1
  have h1 := spl_lt h64 hz (minK (spl W) (k - 2)).1
  have : (2 : Nat) ^ 138 = 2 ^ 137 + 2 ^ 137 := by decide
  have : (2 : Nat) ^ 74 ≤ 2 ^ 137 := Nat.pow_le_pow_right (by decide) (by decide)
  unfold bsS
  omega
/-- A round that keeps the best one. -/
theorem BsI.keep {W : List Nat} {S k : Nat} {x : World} {st : ByteArray} {v7 : Value} (h : BsI W S k x st v7) (h2 : 2 ≤ k) (hc : (minK (spl W) (k - 2)).2 ≤ spl W (k - 1)) : BsI W S (k + 1) x st v7 := fun _ => by
  obtain ⟨e1, e2⟩ := h h2
  have e : minK (spl W) (k + 1 - 2) = minK (spl W) (k - 2) := by
    rw [show k + 1 - 2 = (k - 2) + 1 by omega]
    simp only [minK]
    rw [if_neg (by rw [show k - 2 + 1 = k - 1 by omega]; omega)]
  unfold bsS at e1 ⊢
  rw [e]
  exact ⟨e1, e2⟩
/-- A round that finds a better one. -/
theorem BsI.more {W : List Nat} {S k : Nat} {x : World} {v7 : Value} (h1 : 1 ≤ k) (hc : 2 ≤ k → spl W (k - 1) < (minK (spl W) (k - 2)).2) (hn : NR2 x v7 (dB W (k - 1))) : BsI W S (k + 1) x (mg (S + spl W (k - 1))) v7 := fun _ => by
  have e : minK (spl W) (k + 1 - 2) = (k - 1, spl W (k - 1)) := by
    by_cases hk : k = 1
    · subst hk; rfl
    · rw [show k + 1 - 2 = (k - 2) + 1 by omega]
      simp only [minK]
      rw [show k - 2 + 1 = k - 1 by omega, if_pos (hc (by omega))]
  unfold bsS
  rw [e]
  exact ⟨rfl, hn⟩
theorem NR2.store {V : World} {v : Value} {ds : List Nat} (h : NR2 V v ds) (h1 : 1 ≤ ds.length) {p : Nat} {b0 : Bool} {s0 : ByteArray} (hb : BC V p [.bool b0, .string s0]) (x y : Value) : NR2 ((V.setCell ⟨p, 0, none⟩ x).setCell ⟨p, 1, none⟩ y) v ds := by
  obtain ⟨g, c, rfl, h2, h3, h4⟩ := h
  have hne : g ≠ p := fun e => by
    subst e
    have e1 := h4 0 ds[0] (List.getElem?_eq_getElem (by omega))
    have e2 := hb.at 0 _ rfl
    rw [e1] at e2
    cases e2
  refine ⟨g, c, rfl, h2, h3, fun i d hi => ?_⟩
  have e := h4 i d hi
  exact (World.cell?_setCell_other _ _ _ _ (fun e => hne (congrArg Addr.block e).symm)).trans ((World.cell?_setCell_other _ _ _ _ (fun e => hne (congrArg Addr.block e).symm)).trans e)
theorem BC.at_below {W W' : World} {b m : Nat} {l : List Value} (h : BC W b l) (hg : b < m) (hb : Below m W W') : BC W' b l := BC.heap h (hb.block b hg) hb.size
theorem NR2.lt {W : World} {v : Value} {ds : List Nat} (h : NR2 W v ds) (h1 : 1 ≤ ds.length) : ∃ g c, v = .slice (Option.some ⟨g, 0, none⟩) ds.length c ∧ g < W.heap.size := by
  obtain ⟨g, c, e, -, -, hc⟩ := h
  exact ⟨g, c, e, World.block_lt_of_cell? _ ⟨g, 0, none⟩ (hc 0 ds[0] (List.getElem?_eq_getElem (by omega)))⟩
set_option maxRecDepth 100000 in
set_option maxHeartbeats 8000000 in
theorem rcost_any : ∀ (f : Nat) (A : Addr) (cap : Nat) (Ws : List Nat), Ws.length ≤ f → 1 ≤ Ws.length → Ws.length ≤ 64 → Ws.length ≤ cap → cap ≤ maxLen → (∀ z ∈ Ws, z < 2 ^ 64) → ∀ w, Sl w (some A) (VL Ws) →
    Calls Try.prog 60 #[.slice (some A) Ws.length cap] w (CoQ Ws w)
  | 0, A, cap, Ws, h, h1, _, _, _, _, w, _ => by omega
  | f + 1, A, cap, Ws, hf, h1, h64, hc, hcm, hz, w, hS => by
    by_cases hl1 : Ws.length = 1
    · have ha0 : alc Ws = 0 := alc_one (by omega)
      have hd0 : alD Ws.length Ws = [0] := by rw [hl1]; simp only [alD]; rw [if_pos (by omega)]
      have h11 : (((1 : Nat) : Int) == 1) = true := rfl
      rw [hl1]
      have hB2 := (BC.new w w.heap.size #[.bool false, .string ⟨#[]⟩] 37 rfl)
      obtain ⟨B, hB⟩ : ∃ B, w.heap.size = B := ⟨_, rfl⟩
      have HR := Lib.hid (BC.new (w.alloc (.cells #[.bool false, .string ⟨#[]⟩] 37)) (B + 1) #[.int .i64 0] 3 (by simp [hB]))
      have HB2 := Lib.hid (hB2.alloc (.cells #[.int .i64 0] 3))
      have HW := Lib.hid (((Below.refl w.heap.size w).alloc (Nat.le_refl _) (.cells #[.bool false, .string ⟨#[]⟩] 37)).alloc (by simp) (.cells #[.int .i64 0] 3))
      rw [hB] at HB2 HW
      have HA0 := Lib.hid ha0
      have HD0 := Lib.hid hd0
      clear hB2 ha0 hd0
      obtain ⟨X, hX⟩ : ∃ X, (w.alloc (.cells #[.bool false, .string ⟨#[]⟩] 37)).alloc (.cells #[.int .i64 0] 3) = X := ⟨_, rfl⟩
      rw [hX] at HR HB2 HW
      have z0 := HB2.out.z 0 (by simp)
      have z1 := HB2.out.z 1 (by simp)
      have x0 := HB2.out.at 0 _ rfl
      have x1 := HB2.out.at 1 _ rfl
      have HF := Lib.hid (HB2.out.set2 0 1 (.bool false) (.string ⟨#[]⟩) (by simp) (by simp))
      have HRF := Lib.hid ((HR.out.other (c := B) 0 (.bool false) (by omega)).other (c := B) 1 (.string ⟨#[]⟩) (by omega))
      have HWF := Lib.hid ((HW.out.setCell (p := ⟨B, 0, none⟩) (Nat.le_refl _) (.bool false)).setCell (p := ⟨B, 1, none⟩) (Nat.le_refl _) (.string ⟨#[]⟩))
      clear hS hz hc hcm h64 hf h1
      go_enter Try.func60, Try.ntmps60
      go_wp2
      have p0 := HF.out.at 0 _ rfl
      have p1 := HF.out.at 1 _ rfl
      refine bodyPost_ret (v := .tuple #[.agg #[.bool false, .string ⟨#[]⟩], .slice (some ⟨B + 1, 0, none⟩) 1 1]) (by simp [results, Try.results60, go_sem, p0, p1]) rfl ?_
      refine ⟨_, by rw [HA0.out, mg_zero], ?_, by rw [hB]; exact HWF.out⟩
      rw [HD0.out]
      refine ⟨B + 1, 1, rfl, Nat.le_refl _, by unfold maxLen; decide, fun i d hi => ?_⟩
      match i, hi with
      | 0, hi => simp at hi; subst hi; exact HRF.out.at 0 _ rfl
      | i + 1, hi => simp at hi
    · obtain ⟨n, hn⟩ : ∃ n, Ws.length = n := ⟨_, rfl⟩
      have h2 : 2 ≤ n := by omega
      have hn1 : ((n : Int) == 1) = false := by simp; omega
      have hnN : ¬ (n : Int) = 1 := by omega
      have HNN := Lib.hid hn
      have HS := Lib.hid hS
      have HZ := Lib.hid hz
      have hsm : Ws.sum < 2 ^ 74 := sum_lt (N := 64) hz (by omega)
      have HSM := Lib.hid hsm
      have HIH := Lib.hid (fun (A : Addr) (cap : Nat) (Us : List Nat) (h : Us.length ≤ f) (h1 : 1 ≤ Us.length) (h64 : Us.length ≤ 64) (hc : Us.length ≤ cap) (hcm : cap ≤ maxLen) (hz : ∀ z ∈ Us, z < 2 ^ 64) w hS => rcost_any f A cap Us h h1 h64 hc hcm hz w hS)
      have HC := Lib.hid (And.intro hc hcm)
      rw [hn] at hc h64 hf ⊢
      have HNF := Lib.hid hf
      -- the first two boxes
      have hB2 := (BC.new w w.heap.size #[.bool false, .string ⟨#[]⟩] 37 rfl)
      obtain ⟨B, hB⟩ : ∃ B, w.heap.size = B := ⟨_, rfl⟩
      have HB4 := Lib.hid (BC.new (w.alloc (.cells #[.bool false, .string ⟨#[]⟩] 37)) (B + 1) #[.bool false, .string ⟨#[]⟩] 37 (by simp [hB]))
      have HB2 := Lib.hid (hB2.alloc (.cells #[.bool false, .string ⟨#[]⟩] 37))
      have HW := Lib.hid (((Below.refl w.heap.size w).alloc (Nat.le_refl _) (.cells #[.bool false, .string ⟨#[]⟩] 37)).alloc (by simp) (.cells #[.bool false, .string ⟨#[]⟩] 37))
      rw [hB] at HB2 HW
      have HBB := Lib.hid hB
      clear hB2 hS hz hc hcm hf h1 hl1 hsm hn
      go_enter Try.func60, Try.ntmps60
      go_wp2_with fail
      obtain ⟨X, hX⟩ : ∃ X, (w.alloc (.cells #[.bool false, .string ⟨#[]⟩] 37)).alloc (.cells #[.bool false, .string ⟨#[]⟩] 37) = X := ⟨_, rfl⟩
      rw [hX] at HB4 HB2 HW ⊢
      clear hX hB
      have HXW := Lib.hid (show Below w.heap.size w X from by rw [HBB.out]; exact HW.out)
      clear HW
      go_loopg [5] (n + 1) (fun gg v5 wr => ∃ i : Nat, v5 = .int .i64 (i : Int) ∧ i ≤ n ∧ n - i < gg ∧ BC wr (B + 1) [.bool false, .string (mg (Ws.take i).sum)] ∧ BC wr B [.bool false, .string ⟨#[]⟩] ∧ Below w.heap.size w wr)
      case atStart => exact ⟨0, rfl, Nat.zero_le _, by omega, by rw [List.take_zero, show ([] : List Nat).sum = 0 from rfl, mg_zero]; exact HB4.out, HB2.out, HXW.out⟩
      case round =>
        obtain ⟨i, rfl, hi, hig, h5, h2b, hb⟩ := hrel
        clear HB4 HB2 HXW
        have HB4 := Lib.hid h5
        have HB2 := Lib.hid h2b
        have HB := Lib.hid hb
        have HG := Lib.hid hig
        clear h5 h2b hb hig
        by_cases hlt : i < n
        · have hltI : (i : Int) < n := by omega
          obtain ⟨x, hx⟩ : ∃ x, Ws[i]? = some x := ⟨Ws[i]'(by rw [HNN.out]; exact hlt), List.getElem?_eq_getElem _⟩
          obtain ⟨A', eA, c0, c1⟩ := (HS.out.below HB.out) i false (mg x) (VL_at hx)
          cases eA
          have hp := take_sum_le Ws i
          have HAD := Lib.hid (fun X => rAddN4 (x := (Ws.take i).sum) (d := x) 74 64 (Nat.lt_of_le_of_lt hp HSM.out) (HZ.out x (List.mem_of_getElem? hx)) (by decide) (by decide) X)
          rw [← take_sum_succ hx] at HAD
          obtain ⟨s1, hs1⟩ : ∃ s, (Ws.take i).sum = s := ⟨_, rfl⟩
          obtain ⟨s2, hs2⟩ : ∃ s, (Ws.take (i + 1)).sum = s := ⟨_, rfl⟩
          rw [hs1, hs2] at HAD
          rw [hs1] at HB4
          have HS2 := Lib.hid hs2
          have c2 : wr.cell? ⟨(A.add (i * 2)).block, (A.add (i * 2)).off + 1, none⟩ = some (.string (mg x)) := by rw [addr_next]; exact c1
          clear hx hp hs1 hs2
          go_wp2_with fail
          refine wp_region_front 6 zvI (by kernel_rfl) shI (by kernel_rfl) (by kernel_rfl) (zvI_alloc _ (by kernel_rfl)) (shI_store _ (by kernel_rfl)) ?_
          intro mm BW hm1 hm2 hBW
          haveI := clm_some mm BW
          have fq0 := fun u : Clm mm BW => u.cellA hm1 hBW (HB4.out.at 0 _ rfl)
          have fr0 := fun u : Clm mm BW => u.cellA hm1 hBW (HB4.out.at 1 _ rfl)
          have fq1 := fun u : Clm mm BW => u.cellA hm1 hBW c0
          have fr1 := fun u : Clm mm BW => u.cellA hm1 hBW c2
          simp only [frontOf, unmade, List.take_succ_cons, List.take_zero, List.map_cons, List.map_nil]
          iterate 5 (go_big_quiet_step (fail))
          go_big_quiet_step ((go_at_call 82; exact quiet_clm hm2 HAD.out _))
          refine wpQuiet_nil ?_
          refine ⟨List.forall_mem_nil _, ?_⟩
          intro γ w7 hB7 hF
          clear hF hBW this hm1 hm2 fq0 fr0 fq1 fr1
          clear BW mm
          simp only [madesFrom, Facts, patch, List.take_succ_cons, List.take_zero, List.drop_succ_cons, List.drop_zero]
          clear γ
          have HP4 := Lib.hid (HB4.out.below hB7)
          have HP2 := Lib.hid (HB2.out.below hB7)
          have HP := Lib.hid (bstep HB.out hB7)
          clear hB7 c0 c1 c2
          have x0 := HP4.out.at 0 _ rfl
          have x1 := HP4.out.at 1 _ rfl
          have z0 := HP4.out.z 0 (by simp)
          have z1 := HP4.out.z 1 (by simp)
          go_wp2_with fail
          go_roundg (n - i)
          case rel =>
            refine ⟨i + 1, by go_num, by omega, by omega, ?_, (HP2.out.other 0 _ (by omega)).other 1 _ (by omega), (HP.out.setCell (p := ⟨B + 1, 0, none⟩) (by have := HBB.out; show w.heap.size ≤ B + 1; omega) _).setCell (p := ⟨B + 1, 1, none⟩) (by have := HBB.out; show w.heap.size ≤ B + 1; omega) _⟩
            rw [HS2.out]
            exact HP4.out.set2 0 1 _ _ (by simp) (by simp)
          case measure => have := HG.out; omega
        · obtain rfl : n = i := by omega
          have hB : decide ((n : Int) < n) = false := by simp
          go_wp2_with fail
          obtain ⟨P, hP⟩ : ∃ P, wr.heap.size = P := ⟨_, rfl⟩
          have HQ4 := Lib.hid ((HB4.out.alloc (.cells #[] 3)).alloc (.cells #[.bool false, .string ⟨#[]⟩] 37))
          have HQ2 := Lib.hid ((HB2.out.alloc (.cells #[] 3)).alloc (.cells #[.bool false, .string ⟨#[]⟩] 37))
          have HQ6 := Lib.hid (BC.new (wr.alloc (.cells #[] 3)) (P + 1) #[.bool false, .string ⟨#[]⟩] 37 (by simp [hP]))
          have HQ := Lib.hid (show Below w.heap.size w ((wr.alloc (.cells #[] 3)).alloc (.cells #[.bool false, .string ⟨#[]⟩] 37)) from (HB.out.alloc HB.out.size _).alloc (by have := HB.out.size; simp; omega) _)
          have HPB := Lib.hid (show w.heap.size ≤ P ∧ B + 1 < P from ⟨by rw [← hP]; exact HB.out.size, by
            have := World.block_lt_of_cell? _ ⟨B + 1, 0, none⟩ (HB4.out.at 0 _ rfl)
            rw [hP] at this
            exact this⟩)
          obtain ⟨X6, hX⟩ : ∃ X, (wr.alloc (.cells #[] 3)).alloc (.cells #[.bool false, .string ⟨#[]⟩] 37) = X := ⟨_, rfl⟩
          rw [hX] at HQ4 HQ2 HQ6 HQ ⊢
          rw [hP]
          have HSS := Lib.hid (show (Ws.take n).sum = Ws.sum from by rw [← HNN.out, List.take_length])
          rw [HSS.out] at HQ4
          obtain ⟨S, hS⟩ : ∃ S, Ws.sum = S := ⟨_, rfl⟩
          rw [hS] at HQ4
          have HS' := Lib.hid hS
          clear hX hP hS HB4 HB2 HB HSS
          go_loopg [7, 8] (n + 1) (fun gg v7 v8 wr => ∃ (k : Nat) (st : ByteArray), v8 = .int .i64 (k : Int) ∧ 1 ≤ k ∧ k ≤ n ∧ n - k < gg ∧ BC wr (B + 1) [.bool false, .string (mg S)] ∧ BC wr (P + 1) [.bool false, .string st] ∧ BC wr B [.bool false, .string ⟨#[]⟩] ∧ BsI Ws S k wr st v7 ∧ Below w.heap.size w wr)
          case atStart => exact ⟨1, _, rfl, Nat.le_refl _, by omega, by omega, HQ4.out, HQ6.out, HQ2.out, fun h => by omega, HQ.out⟩
          case round =>
            clear HQ4 HQ2 HQ6 HQ
            obtain ⟨k, st, rfl, hk1, hkn, hkg, h4, h6, h2b, hbs, hb⟩ := hrel
            have HB4 := Lib.hid h4
            have HB6 := Lib.hid h6
            have HB2 := Lib.hid h2b
            have HBS := Lib.hid hbs
            have HB := Lib.hid hb
            have HG := Lib.hid hkg
            clear h4 h6 h2b hbs hb hkg
            by_cases hlt : k < n
            · have hltI : (k : Int) < n := by omega
              obtain ⟨r, hr⟩ : ∃ r, n - k = r := ⟨_, rfl⟩
              have hrI : (n : Int) - (k : Int) = (r : Int) := by omega
              have hcc := HC.out
              rw [HNN.out] at hcc
              have hnf := HNF.out
              obtain ⟨cr, hcr⟩ : ∃ c, cap - k = c := ⟨_, rfl⟩
              have hcrI : (cap : Int) - (k : Int) = (cr : Int) := by omega
              have hkcap : (k : Int) ≤ cap := by omega
              have hncap : (n : Int) ≤ cap := by omega
              have hcr0 : ¬ cr = 0 := by omega
              have hcapk : ¬ cap = k := by omega
              have hltk : (Ws.take k).length = k := by rw [List.length_take, HNN.out]; omega
              have hldk : (Ws.drop k).length = r := by rw [List.length_drop, HNN.out]; omega
              have HA1 := Lib.hid (fun W (h : Below w.heap.size w W) => HIH.out A cap (Ws.take k) (by omega) (by omega) (by omega) (by omega) hcc.2 (fun z hz => HZ.out z (List.mem_of_mem_take hz)) W ((HS.out.below h).take k))
              have HA2 := Lib.hid (fun W (h : Below w.heap.size w W) => HIH.out (A.add (k * 2)) cr (Ws.drop k) (by omega) (by omega) (by omega) (by omega) (by omega) (fun z hz => HZ.out z (List.mem_of_mem_drop hz)) W ((HS.out.below h).drop k))
              rw [hltk] at HA1
              rw [hldk] at HA2
              have HL1 := Lib.hid hltk
              have HL2 := Lib.hid hldk
              clear hltk hldk hcc hnf
              go_wp2_with fail
              refine (HA1.out wr HB.out).mono ?_
              intro e w1 hq
              obtain ⟨va, rfl, hna, hb1⟩ := hq
              obtain ⟨ca, hca⟩ : ∃ c, alc (Ws.take k) = c := ⟨_, rfl⟩
              rw [hca]
              have HCA := Lib.hid hca
              have hal : Below w1.heap.size w1 (w1.alloc (.cells #[.bool false, .string (mg ca)] 37)) := (Below.refl _ _).alloc (Nat.le_refl _) _
              have hst := hb1.trans (hal.mono hb1.size)
              have HNA := Lib.hid (hna.below hal)
              have HB4a := Lib.hid (HB4.out.below hst)
              have HB6a := Lib.hid (HB6.out.below hst)
              have HB2a := Lib.hid (HB2.out.below hst)
              have HBSa := Lib.hid (show BsI Ws S k _ st u7 from fun h => ⟨(HBS.out h).1, (HBS.out h).2.below hst⟩)
              have HBa := Lib.hid (bstep HB.out hst)
              have HT9 := Lib.hid (BC.new w1 w1.heap.size #[.bool false, .string (mg ca)] 37 rfl)
              clear hca hna hb1 hal hst HB4 HB6 HB2 HBS HB HA1
              go_wp2_with fail
              obtain ⟨Q9, hQ9⟩ : ∃ q, w1.heap.size = q := ⟨_, rfl⟩
              rw [hQ9] at HT9 ⊢
              obtain ⟨X1, hX1⟩ : ∃ X, w1.alloc (.cells #[.bool false, .string (mg ca)] 37) = X := ⟨_, rfl⟩
              rw [hX1] at HT9 HNA HB4a HB6a HB2a HBSa HBa ⊢
              clear hX1 hQ9
              refine (HA2.out X1 HBa.out).mono ?_
              intro e w2 hq
              obtain ⟨vb, rfl, hnb, hb2⟩ := hq
              obtain ⟨cb, hcb⟩ : ∃ c, alc (Ws.drop k) = c := ⟨_, rfl⟩
              rw [hcb]
              have HCB := Lib.hid hcb
              have hal : Below w2.heap.size w2 (w2.alloc (.cells #[.bool false, .string (mg cb)] 37)) := (Below.refl _ _).alloc (Nat.le_refl _) _
              have hst := hb2.trans (hal.mono hb2.size)
              have HNB := Lib.hid (hnb.below hal)
              have HNA2 := Lib.hid (HNA.out.below hst)
              have HB4 := Lib.hid (HB4a.out.below hst)
              have HB6 := Lib.hid (HB6a.out.below hst)
              have HB2 := Lib.hid (HB2a.out.below hst)
              have HB9 := Lib.hid (HT9.out.below hst)
              have HBS := Lib.hid (show BsI Ws S k _ st u7 from fun h => ⟨(HBSa.out h).1, (HBSa.out h).2.below hst⟩)
              have HB := Lib.hid (bstep HBa.out hst)
              have HB11 := Lib.hid (BC.new w2 w2.heap.size #[.bool false, .string (mg cb)] 37 rfl)
              clear hcb hnb hb2 hal hst HB4a HB6a HB2a HBSa HBa HT9 HNA HA2
              have hcaB : ca < 2 ^ 136 := by rw [← HCA.out]; exact alc_lt1 (by rw [HL1.out]; omega) (fun z hz => HZ.out z (List.mem_of_mem_take hz))
              have hcbB : cb < 2 ^ 136 := by rw [← HCB.out]; exact alc_lt1 (by rw [HL2.out]; omega) (fun z hz => HZ.out z (List.mem_of_mem_drop hz))
              have hSB : S < 2 ^ 74 := by rw [← HS'.out]; exact HSM.out
              have hab : ca + cb < 2 ^ 137 := by
                have : (2 : Nat) ^ 137 = 2 ^ 136 + 2 ^ 136 := by decide
                omega
              have HAD1 := Lib.hid (fun W => rAddN4 (x := ca) (d := cb) 136 136 hcaB hcbB (by decide) (by decide) W)
              have HAD2 := Lib.hid (fun W => rAddN4 (x := S) (d := ca + cb) 74 137 hSB hab (by decide) (by decide) W)
              obtain ⟨tt, htt⟩ : ∃ t, S + (ca + cb) = t := ⟨_, rfl⟩
              have HTT := Lib.hid htt
              have HTB := Lib.hid (show tt < 2 ^ 138 from by
                have : (2 : Nat) ^ 138 = 2 ^ 137 + 2 ^ 137 := by decide
                have : (2 : Nat) ^ 74 ≤ 2 ^ 137 := Nat.pow_le_pow_right (by decide) (by decide)
                omega)
              rw [htt] at HAD2
              obtain ⟨sab, hsab⟩ : ∃ t, ca + cb = t := ⟨_, rfl⟩
              rw [hsab] at HAD1 HAD2
              clear hcaB hcbB hSB hab htt hsab
              go_wp2_with fail
              obtain ⟨Q11, hQ11⟩ : ∃ q, w2.heap.size = q := ⟨_, rfl⟩
              rw [hQ11] at HB11 ⊢
              obtain ⟨X2, hX2⟩ : ∃ X, w2.alloc (.cells #[.bool false, .string (mg cb)] 37) = X := ⟨_, rfl⟩
              rw [hX2] at HB11 HNB HNA2 HB4 HB6 HB2 HB9 HBS HB ⊢
              clear hX2 hQ11
              refine wp_region_front 7 zvI (by kernel_rfl) shI (by kernel_rfl) (by kernel_rfl) (zvI_alloc _ (by kernel_rfl)) (shI_store _ (by kernel_rfl)) ?_
              intro mm BW hm1 hm2 hBW
              haveI := clm_some mm BW
              have fq0 := fun u : Clm mm BW => u.cellA hm1 hBW (HB4.out.at 0 _ rfl)
              have fr0 := fun u : Clm mm BW => u.cellA hm1 hBW (HB4.out.at 1 _ rfl)
              have fq1 := fun u : Clm mm BW => u.cellA hm1 hBW (HB9.out.at 0 _ rfl)
              have fr1 := fun u : Clm mm BW => u.cellA hm1 hBW (HB9.out.at 1 _ rfl)
              have fq2 := fun u : Clm mm BW => u.cellA hm1 hBW (HB11.out.at 0 _ rfl)
              have fr2 := fun u : Clm mm BW => u.cellA hm1 hBW (HB11.out.at 1 _ rfl)
              simp only [frontOf, unmade, List.take_succ_cons, List.take_zero, List.map_cons, List.map_nil]
              iterate 3 (go_big_quiet_step (fail))
              go_big_quiet_step ((go_at_call 82; exact quiet_clm hm2 HAD1.out _))
              go_big_quiet_step ((go_at_call 82; exact quiet_clm hm2 HAD2.out _))
              iterate 2 (go_big_quiet_step (fail))
              refine wpQuiet_nil ?_
              refine ⟨List.forall_mem_cons.2 ⟨by kernel_rfl, List.forall_mem_nil _⟩, ?_⟩
              intro γ w3 hB3 hF
              clear hBW this hm1 hm2 fq0 fr0 fq1 fr1 fq2 fr2
              clear BW mm
              simp only [madesFrom, Facts, patch, List.take_succ_cons, List.take_zero, List.drop_succ_cons, List.drop_zero, Nat.zero_add, Nat.reduceAdd, List.mem_cons, List.not_mem_nil, or_false, forall_eq, forall_eq_or_imp, false_imp_iff, implies_true, and_true] at hF ⊢
              obtain ⟨hp13, hl13, hk13⟩ := hF
              obtain ⟨Q13, hG⟩ : ∃ B, γ 5 = B := ⟨_, rfl⟩
              rw [hG] at hp13 hl13 hk13 ⊢
              clear hG
              have HB13 := Lib.hid (BC.of (a := #[.bool false, .string (mg tt)]) (T := 37) hk13)
              have HNB3 := Lib.hid (HNB.out.below hB3)
              have HNA3 := Lib.hid (HNA2.out.below hB3)
              have HQ4 := Lib.hid (HB4.out.below hB3)
              have HQ6 := Lib.hid (HB6.out.below hB3)
              have HQ2 := Lib.hid (HB2.out.below hB3)
              have HQS := Lib.hid (show BsI Ws S k _ st u7 from fun h => ⟨(HBS.out h).1, (HBS.out h).2.below hB3⟩)
              have HQ := Lib.hid (bstep HB.out hB3)
              have HNE := Lib.hid (show P + 1 < Q13 from by
                have := World.block_lt_of_cell? _ ⟨P + 1, 0, none⟩ (HB6.out.at 0 _ rfl)
                exact Nat.lt_of_lt_of_le this hp13)
              have HSP := Lib.hid (show tt = S + spl Ws (k - 1) from by
                rw [← HTT.out, ← HCA.out, ← HCB.out]
                unfold spl
                rw [show k - 1 + 1 = k by omega])
              clear hp13 hl13 hk13 hB3 HB4 HB6 HB2 HB9 HB11 HBS HB HNA2 HNB HAD1 HAD2
              have x0 := HB13.out.at 0 _ rfl
              have x1 := HB13.out.at 1 _ rfl
              have y0 := HQ6.out.at 0 _ rfl
              have y1 := HQ6.out.at 1 _ rfl
              have z0 := HQ6.out.z 0 (by simp)
              have z1 := HQ6.out.z 1 (by simp)
              by_cases hk : k = 1
              case pos =>
                have hk1I : decide ((1 : Int) < (k : Int)) = false := by simp; omega
                have HK1 := Lib.hid hk
                clear hk
                have HMR := Lib.hid (show 2 ≤ k → spl Ws (k - 1) < (minK (spl Ws) (k - 2)).2 from fun h => by have := HK1.out; omega)
                obtain ⟨Gd, hG⟩ : ∃ G, w3.heap.size = G := ⟨_, rfl⟩
                have ho0 := World.ownsRow_made w3 (e := 3) (size := 1) #[] 0 (Nat.le_refl _) (Nat.zero_le _) rfl
                have HV6 := Lib.hid (HQ6.out.alloc (.cells #[] 3))
                have HV4 := Lib.hid (HQ4.out.alloc (.cells #[] 3))
                have HV2 := Lib.hid (HQ2.out.alloc (.cells #[] 3))
                have HVB := Lib.hid (HQ.out.alloc HQ.out.size (.cells #[] 3))
                have halV : Below w3.heap.size w3 (w3.alloc (.cells #[] 3)) := (Below.refl _ _).alloc (Nat.le_refl _) _
                obtain ⟨l1, hl1⟩ : ∃ l, alD (Ws.take k).length (Ws.take k) = l := ⟨_, rfl⟩
                obtain ⟨l2, hl2⟩ : ∃ l, alD (Ws.drop k).length (Ws.drop k) = l := ⟨_, rfl⟩
                have hl1p : 1 ≤ l1.length := by rw [← hl1, (alD_spec _ _ (Nat.le_refl _) (by rw [HL1.out]; omega)).1, HL1.out]; omega
                have hl2p : 1 ≤ l2.length := by rw [← hl2, (alD_spec _ _ (Nat.le_refl _) (by rw [HL2.out]; omega)).1, HL2.out]; omega
                rw [hl1] at HNA3
                rw [hl2] at HNB3
                have HLL1 := Lib.hid hl1
                have HLL2 := Lib.hid hl2
                clear hl1 hl2
                obtain ⟨g1, c1, rfl, hg1⟩ := HNA3.out.lt hl1p
                obtain ⟨g2, c2, rfl, hg2⟩ := HNB3.out.lt hl2p
                rw [hG] at hg1 hg2
                have Hg1 := Lib.hid hg1
                have Hg2 := Lib.hid hg2
                have HS1 := Lib.hid hl1p
                have HS2 := Lib.hid hl2p
                have HNAV := Lib.hid (HNA3.out.below halV)
                have HNBV := Lib.hid (HNB3.out.below halV)
                have HO0 := Lib.hid ho0
                rw [hG] at HO0
                have HGL := Lib.hid (show Q13 < Gd from by
                  have := World.block_lt_of_cell? _ ⟨Q13, 0, none⟩ (HB13.out.at 0 _ rfl)
                  rwa [hG] at this)
                obtain ⟨V, hV⟩ : ∃ V, w3.alloc (.cells #[] 3) = V := ⟨_, rfl⟩
                rw [hV] at HV6 HV4 HV2 HVB HNAV HNBV HO0
                clear hg1 hg2 hl1p hl2p y0 y1 z0 z1 ho0 halV
                have z0 := HV6.out.z 0 (by simp)
                have z1 := HV6.out.z 1 (by simp)
                have y0 := HV6.out.at 0 _ rfl
                have y1 := HV6.out.at 1 _ rfl
                go_wp2_with fail
                obtain ⟨X16, hX16⟩ : ∃ X, (V.setCell ⟨P + 1, 0, none⟩ (.bool false)).setCell ⟨P + 1, 1, none⟩ (.string (mg tt)) = X := ⟨_, rfl⟩
                have hgX : V.grownBy X16 (some (P + 1)) := by rw [← hX16]; exact (gSet40 V (P + 1) 0 _).andThen (gSet40 _ (P + 1) 1 _) (fun c e => .inr e)
                have HO0X := Lib.hid (own_grown HO0.out hgX (fun g e => by
                  have e1 : Gd = g := by simpa [Value.ownBlock] using e
                  have := HNE.out
                  have := HGL.out
                  intro h
                  cases h
                  omega))
                have HX6 := Lib.hid (show BC X16 (P + 1) [.bool false, .string (mg tt)] from by rw [← hX16]; exact HV6.out.set2 0 1 _ _ (by simp) (by simp))
                have HX4 := Lib.hid (show BC X16 (B + 1) [.bool false, .string (mg S)] from by rw [← hX16]; have := HPB.out; exact (HV4.out.other 0 _ (by omega)).other 1 _ (by omega))
                have HX2 := Lib.hid (show BC X16 B [.bool false, .string ⟨#[]⟩] from by rw [← hX16]; have := HPB.out; exact (HV2.out.other 0 _ (by omega)).other 1 _ (by omega))
                have HXB := Lib.hid (show Below w.heap.size w X16 from by
                  rw [← hX16]
                  have := HPB.out
                  exact (HVB.out.setCell (p := ⟨P + 1, 0, none⟩) (by show w.heap.size ≤ P + 1; omega) _).setCell (p := ⟨P + 1, 1, none⟩) (by show w.heap.size ≤ P + 1; omega) _)
                have HN1 := Lib.hid (show NR2 X16 (.slice (some ⟨g1, 0, none⟩) l1.length c1) l1 from by rw [← hX16]; exact HNAV.out.store HS1.out HV6.out _ _)
                have HN2 := Lib.hid (show NR2 X16 (.slice (some ⟨g2, 0, none⟩) l2.length c2) l2 from by rw [← hX16]; exact HNBV.out.store HS2.out HV6.out _ _)
                rw [hX16]
                have HGX := Lib.hid (show Gd ≤ X16.heap.size from Nat.le_trans (by rw [← hV, ← hG]; simp) hgX.size)
                clear hX16 hgX hV hG z0 z1 y0 y1 x0 x1 HV6 HV4 HV2 HVB HNAV HNBV HO0
                obtain ⟨i0, hi0, hz0, hz1, hz2⟩ := info_parts infoNt
                have hl1 := HLL1.out
                have hl2 := HLL2.out
                have HC1B := Lib.hid (show ∀ d ∈ l1, d ≤ 64 from fun d hd => by
                  rw [← hl1] at hd
                  have := alD_le (by rw [HL1.out]; omega) d hd
                  have := HL1.out
                  omega)
                have HC2B := Lib.hid (show ∀ d ∈ l2, d ≤ 64 from fun d hd => by
                  rw [← hl2] at hd
                  have := alD_le (by rw [HL2.out]; omega) d hd
                  have := HL2.out
                  omega)
                have hs1 : l1.length ≤ 64 := by rw [← hl1, (alD_spec _ _ (Nat.le_refl _) (by rw [HL1.out]; omega)).1, HL1.out]; omega
                have hs2 : l2.length ≤ 64 := by rw [← hl2, (alD_spec _ _ (Nat.le_refl _) (by rw [HL2.out]; omega)).1, HL2.out]; omega
                obtain ⟨gx1, cx1, ex1, -, -, hg1⟩ := id HN1.out
                cases ex1
                obtain ⟨gx2, cx2, ex2, -, -, hg2⟩ := id HN2.out
                cases ex2
                have HC1 := Lib.hid hg1
                have HC2 := Lib.hid hg2
                clear hl1 hl2 hg1 hg2 HN1 HN2
                go_loopg [7, 14] (l1.length + 1) (fun gg v7 vi wq => ∃ i : Nat, vi = .int .i64 (i : Int) ∧ i ≤ l1.length ∧ l1.length - i < gg ∧ Below Gd X16 wq ∧ wq.ownsRow Gd 3 1 v7 i (natV ((l1.take i).map (· + 1))))
                case atStart => exact ⟨0, rfl, Nat.zero_le _, by omega, Below.refl _ _, by exact HO0X.out⟩
                case round =>
  
                  obtain ⟨i, rfl, hi, hig, hgw, hown⟩ := hrel
                  have HGG := Lib.hid hig
                  have HGW := Lib.hid hgw
                  have HO := Lib.hid hown
                  clear hig hgw hown
                  by_cases hlt2 : i < l1.length
                  · have hltJ : (i : Int) < l1.length := by omega
                    obtain ⟨d, hd⟩ : ∃ d, l1[i]? = some d := ⟨l1[i], List.getElem?_eq_getElem hlt2⟩
                    have hd6 := HC1B.out d (List.mem_of_getElem? hd)
                    have c0 := (HGW.out.cell (p := ⟨g1, i, none⟩) Hg1.out).trans (HC1.out i d hd)
                    have HXN := Lib.hid (show natV ((l1.take (i + 1)).map (· + 1)) = natV ((l1.take i).map (· + 1)) ++ [.int .i64 ((d : Int) + 1)] from by rw [List.take_add_one, hd]; unfold natV; simp)
                    have HSZ := Lib.hid (Nat.le_trans HGX.out HGW.out.size)
                    clear hd
                    go_wp2_with (at_builtin; refine wpList_append_own _ rfl _ _ 22 rfl Gd 3 i0 (.int .i64 0) 1 8 Try.underlying22 hi0 hz0 hz1 hz2 rfl (by decide) _ _ (natV ((l1.take i).map (· + 1))) rfl (HO.out.alloc (.cells #[.int .i64 ((d : Int) + 1)] 3)) ⟨_, 0, none⟩ 1 1 [.int .i64 ((d : Int) + 1)] rfl rfl (World.news_of_block (cs := #[.int .i64 ((d : Int) + 1)]) (t := 3) (fr := (0, 0)) (heap_alloc_new _ _)) (by simp [Value.oneCell']) (by unfold maxLen; omega) (by omega) (by have := HSZ.out; simp; omega) ?_; intro v' w2 hown2 hgrow2 _)
                    go_roundg (l1.length - i)
                    case rel =>
                      refine ⟨i + 1, by go_num, by omega, by omega, ?_, ?_⟩
                      · exact (HGW.out.alloc HSZ.out _).grown hgrow2 (by have := HSZ.out; simp; omega) (fun k e => (own_base (HO.out.alloc (.cells #[.int .i64 ((d : Int) + 1)] 3)) e).1)
                      · rw [HXN.out]; exact hown2
                    case measure => have := HGG.out; omega
                  · obtain rfl : i = l1.length := by omega
                    have hB : decide ((l1.length : Int) < l1.length) = false := by simp
                    go_wp2_with fail
                    go_loopg [7, 15] (l2.length + 1) (fun gg v7 vi wq => ∃ i : Nat, vi = .int .i64 (i : Int) ∧ i ≤ l2.length ∧ l2.length - i < gg ∧ Below Gd X16 wq ∧ wq.ownsRow Gd 3 1 v7 (l1.length + i) (natV (l1.map (· + 1) ++ (l2.take i).map (· + 1))))
                    case atStart => exact ⟨0, rfl, Nat.zero_le _, by omega, HGW.out, by rw [List.take_zero, List.map_nil, List.append_nil]; have h := HO.out; rw [List.take_length] at h; exact h⟩
                    case round =>
                      clear HO HGW HGG
                      obtain ⟨i, rfl, hi, hig, hgw, hown⟩ := hrel
                      have HGG := Lib.hid hig
                      have HGW := Lib.hid hgw
                      have HO := Lib.hid hown
                      clear hig hgw hown
                      by_cases hlt2 : i < l2.length
                      · have hltJ : (i : Int) < l2.length := by omega
                        obtain ⟨d, hd⟩ : ∃ d, l2[i]? = some d := ⟨l2[i], List.getElem?_eq_getElem hlt2⟩
                        have hd6 := HC2B.out d (List.mem_of_getElem? hd)
                        have c0 := (HGW.out.cell (p := ⟨g2, i, none⟩) Hg2.out).trans (HC2.out i d hd)
                        have HXN := Lib.hid (show natV (l1.map (· + 1) ++ (l2.take (i + 1)).map (· + 1)) = natV (l1.map (· + 1) ++ (l2.take i).map (· + 1)) ++ [.int .i64 ((d : Int) + 1)] from by rw [List.take_add_one, hd]; unfold natV; simp)
                        have HSZ := Lib.hid (Nat.le_trans HGX.out HGW.out.size)
                        clear hd
                        go_wp2_with (at_builtin; refine wpList_append_own _ rfl _ _ 22 rfl Gd 3 i0 (.int .i64 0) 1 8 Try.underlying22 hi0 hz0 hz1 hz2 rfl (by decide) _ _ (natV (l1.map (· + 1) ++ (l2.take i).map (· + 1))) rfl (HO.out.alloc (.cells #[.int .i64 ((d : Int) + 1)] 3)) ⟨_, 0, none⟩ 1 1 [.int .i64 ((d : Int) + 1)] rfl rfl (World.news_of_block (cs := #[.int .i64 ((d : Int) + 1)]) (t := 3) (fr := (0, 0)) (heap_alloc_new _ _)) (by simp [Value.oneCell']) (by unfold maxLen; omega) (by omega) (by have := HSZ.out; simp; omega) ?_; intro v' w2 hown2 hgrow2 _)
                        go_roundg (l2.length - i)
                        case rel =>
                          refine ⟨i + 1, by go_num, by omega, by omega, ?_, ?_⟩
                          · exact (HGW.out.alloc HSZ.out _).grown hgrow2 (by have := HSZ.out; simp; omega) (fun k e => (own_base (HO.out.alloc (.cells #[.int .i64 ((d : Int) + 1)] 3)) e).1)
                          · rw [HXN.out]; exact hown2
                        case measure => have := HGG.out; omega
                      · obtain rfl : i = l2.length := by omega
                        have hB : decide ((l2.length : Int) < l2.length) = false := by simp
                        have HE4 := Lib.hid (HX4.out.at_below (by have := HPB.out; have := HNE.out; have := HGL.out; omega) HGW.out)
                        have HE6 := Lib.hid (HX6.out.at_below (by have := HPB.out; have := HNE.out; have := HGL.out; omega) HGW.out)
                        have HE2 := Lib.hid (HX2.out.at_below (by have := HPB.out; have := HNE.out; have := HGL.out; omega) HGW.out)
                        have HEB := Lib.hid (HXB.out.trans (HGW.out.mono (by have := HPB.out; have := HNE.out; have := HGL.out; omega)))
                        have hdb : l1.map (· + 1) ++ l2.map (· + 1) = dB Ws (k - 1) := by
                          unfold dB
                          rw [show k - 1 + 1 = k by omega, HLL1.out, HLL2.out]
                        have hown := HO.out
                        rw [List.take_length, hdb] at hown
                        have hdl : (dB Ws (k - 1)).length = l1.length + l2.length := by rw [← hdb, List.length_append, List.length_map, List.length_map]
                        rw [← hdl] at hown
                        have HND := Lib.hid (NR2.own hown (by have := HS1.out; omega))
                        clear hdb hown hdl HO HGW HGG
                        go_wp2_with fail
                        go_roundg (n - k)
                        case rel =>
                          refine ⟨k + 1, mg tt, by go_num, by omega, by omega, by omega, HE4.out, HE6.out, HE2.out, ?_, HEB.out⟩
                          rw [HSP.out]
                          exact BsI.more (by omega) HMR.out HND.out
                        case measure => have := HG.out; omega
              case neg =>
                have hk1I : (1 : Int) < (k : Int) := by omega
                obtain ⟨b, hb⟩ : ∃ b, bsS Ws S k = b := ⟨_, rfl⟩
                have hst : st = mg b := by rw [← hb]; exact (HQS.out (by omega)).1
                subst hst
                have hbB : b < 2 ^ 138 := by rw [← hb]; exact bsS_lt (by rw [HNN.out]; exact h64) HZ.out (by rw [← HS'.out]; exact HSM.out) k
                have HCM := Lib.hid (fun W => rCmpN4 (x := tt) (d := b) 138 138 HTB.out hbB (by decide) (by decide) W)
                obtain ⟨q, hq⟩ : ∃ q, cmpI (tt : Int) (b : Int) = q := ⟨_, rfl⟩
                rw [hq] at HCM
                have HBB2 := Lib.hid hb
                by_cases hle : b ≤ tt
                case pos =>
                  have hq0 : (0 : Int) ≤ q := by rw [← hq]; unfold cmpI; rw [if_neg (by omega)]; split <;> omega
                  have HKP := Lib.hid (show (minK (spl Ws) (k - 2)).2 ≤ spl Ws (k - 1) from by
                    have h1 := HSP.out
                    have h2 := HBB2.out
                    unfold bsS at h2
                    omega)
                  clear hq hb hbB hle
                  go_wp2_with fail
                  refine (HCM.out _).mono ?_
                  rintro e w4 ⟨rfl, hb4⟩
                  have HR4 := Lib.hid (HQ4.out.below hb4)
                  have HR6 := Lib.hid (HQ6.out.below hb4)
                  have HR2 := Lib.hid (HQ2.out.below hb4)
                  have HRS := Lib.hid (show BsI Ws S k _ (mg b) u7 from fun h => ⟨(HQS.out h).1, (HQS.out h).2.below hb4⟩)
                  have HRR := Lib.hid (bstep HQ.out hb4)
                  clear hb4 x0 x1 y0 y1 z0 z1
                  go_wp2
                  go_roundg (n - k)
                  case rel => exact ⟨k + 1, mg b, by go_num, by omega, by omega, by omega, HR4.out, HR6.out, HR2.out, HRS.out.keep (by omega) HKP.out, HRR.out⟩
                  case measure => have := HG.out; omega
                case neg =>
                  have hq0 : decide ((0 : Int) ≤ q) = false := by
                    rw [← hq]; unfold cmpI; rw [if_pos (by omega)]; rfl
                  have HMR := Lib.hid (show 2 ≤ k → spl Ws (k - 1) < (minK (spl Ws) (k - 2)).2 from fun h => by
                    have h1 := HSP.out
                    have h2 := HBB2.out
                    unfold bsS at h2
                    omega)
                  have HKK := Lib.hid hk
                  clear hq hb hbB hle hk
                  go_wp2_with fail
                  refine (HCM.out _).mono ?_
                  rintro e w4 ⟨rfl, hb4⟩
                  replace HQ4 := Lib.hid (HQ4.out.below hb4)
                  replace HQ6 := Lib.hid (HQ6.out.below hb4)
                  replace HQ2 := Lib.hid (HQ2.out.below hb4)
                  replace HNA3 := Lib.hid (HNA3.out.below hb4)
                  replace HNB3 := Lib.hid (HNB3.out.below hb4)
                  replace HB13 := Lib.hid (HB13.out.below hb4)
                  replace HQ := Lib.hid (bstep HQ.out hb4)
                  clear hb4 x0 x1 y0 y1 z0 z1
                  have x0 := HB13.out.at 0 _ rfl
                  have x1 := HB13.out.at 1 _ rfl
                  have y0 := HQ6.out.at 0 _ rfl
                  have y1 := HQ6.out.at 1 _ rfl
                  have z0 := HQ6.out.z 0 (by simp)
                  have z1 := HQ6.out.z 1 (by simp)
                  obtain ⟨Gd, hG⟩ : ∃ G, w4.heap.size = G := ⟨_, rfl⟩
                  have ho0 := World.ownsRow_made w4 (e := 3) (size := 1) #[] 0 (Nat.le_refl _) (Nat.zero_le _) rfl
                  have HV6 := Lib.hid (HQ6.out.alloc (.cells #[] 3))
                  have HV4 := Lib.hid (HQ4.out.alloc (.cells #[] 3))
                  have HV2 := Lib.hid (HQ2.out.alloc (.cells #[] 3))
                  have HVB := Lib.hid (HQ.out.alloc HQ.out.size (.cells #[] 3))
                  have halV : Below w4.heap.size w4 (w4.alloc (.cells #[] 3)) := (Below.refl _ _).alloc (Nat.le_refl _) _
                  obtain ⟨l1, hl1⟩ : ∃ l, alD (Ws.take k).length (Ws.take k) = l := ⟨_, rfl⟩
                  obtain ⟨l2, hl2⟩ : ∃ l, alD (Ws.drop k).length (Ws.drop k) = l := ⟨_, rfl⟩
                  have hl1p : 1 ≤ l1.length := by rw [← hl1, (alD_spec _ _ (Nat.le_refl _) (by rw [HL1.out]; omega)).1, HL1.out]; omega
                  have hl2p : 1 ≤ l2.length := by rw [← hl2, (alD_spec _ _ (Nat.le_refl _) (by rw [HL2.out]; omega)).1, HL2.out]; omega
                  rw [hl1] at HNA3
                  rw [hl2] at HNB3
                  have HLL1 := Lib.hid hl1
                  have HLL2 := Lib.hid hl2
                  clear hl1 hl2
                  obtain ⟨g1, c1, rfl, hg1⟩ := HNA3.out.lt hl1p
                  obtain ⟨g2, c2, rfl, hg2⟩ := HNB3.out.lt hl2p
                  rw [hG] at hg1 hg2
                  have Hg1 := Lib.hid hg1
                  have Hg2 := Lib.hid hg2
                  have HS1 := Lib.hid hl1p
                  have HS2 := Lib.hid hl2p
                  have HNAV := Lib.hid (HNA3.out.below halV)
                  have HNBV := Lib.hid (HNB3.out.below halV)
                  have HO0 := Lib.hid ho0
                  rw [hG] at HO0
                  have HGL := Lib.hid (show Q13 < Gd from by
                    have := World.block_lt_of_cell? _ ⟨Q13, 0, none⟩ (HB13.out.at 0 _ rfl)
                    rwa [hG] at this)
                  obtain ⟨V, hV⟩ : ∃ V, w4.alloc (.cells #[] 3) = V := ⟨_, rfl⟩
                  rw [hV] at HV6 HV4 HV2 HVB HNAV HNBV HO0
                  clear hg1 hg2 hl1p hl2p y0 y1 z0 z1 ho0 halV
                  have z0 := HV6.out.z 0 (by simp)
                  have z1 := HV6.out.z 1 (by simp)
                  have y0 := HV6.out.at 0 _ rfl
                  have y1 := HV6.out.at 1 _ rfl
                  go_wp2_with fail
                  obtain ⟨X16, hX16⟩ : ∃ X, (V.setCell ⟨P + 1, 0, none⟩ (.bool false)).setCell ⟨P + 1, 1, none⟩ (.string (mg tt)) = X := ⟨_, rfl⟩
                  have hgX : V.grownBy X16 (some (P + 1)) := by rw [← hX16]; exact (gSet40 V (P + 1) 0 _).andThen (gSet40 _ (P + 1) 1 _) (fun c e => .inr e)
                  have HO0X := Lib.hid (own_grown HO0.out hgX (fun g e => by
                    have e1 : Gd = g := by simpa [Value.ownBlock] using e
                    have := HNE.out
                    have := HGL.out
                    intro h
                    cases h
                    omega))
                  have HX6 := Lib.hid (show BC X16 (P + 1) [.bool false, .string (mg tt)] from by rw [← hX16]; exact HV6.out.set2 0 1 _ _ (by simp) (by simp))
                  have HX4 := Lib.hid (show BC X16 (B + 1) [.bool false, .string (mg S)] from by rw [← hX16]; have := HPB.out; exact (HV4.out.other 0 _ (by omega)).other 1 _ (by omega))
                  have HX2 := Lib.hid (show BC X16 B [.bool false, .string ⟨#[]⟩] from by rw [← hX16]; have := HPB.out; exact (HV2.out.other 0 _ (by omega)).other 1 _ (by omega))
                  have HXB := Lib.hid (show Below w.heap.size w X16 from by
                    rw [← hX16]
                    have := HPB.out
                    exact (HVB.out.setCell (p := ⟨P + 1, 0, none⟩) (by show w.heap.size ≤ P + 1; omega) _).setCell (p := ⟨P + 1, 1, none⟩) (by show w.heap.size ≤ P + 1; omega) _)
                  have HN1 := Lib.hid (show NR2 X16 (.slice (some ⟨g1, 0, none⟩) l1.length c1) l1 from by rw [← hX16]; exact HNAV.out.store HS1.out HV6.out _ _)
                  have HN2 := Lib.hid (show NR2 X16 (.slice (some ⟨g2, 0, none⟩) l2.length c2) l2 from by rw [← hX16]; exact HNBV.out.store HS2.out HV6.out _ _)
                  rw [hX16]
                  have HGX := Lib.hid (show Gd ≤ X16.heap.size from Nat.le_trans (by rw [← hV, ← hG]; simp) hgX.size)
                  clear hX16 hgX hV hG z0 z1 y0 y1 x0 x1 HV6 HV4 HV2 HVB HNAV HNBV HO0
                  obtain ⟨i0, hi0, hz0, hz1, hz2⟩ := info_parts infoNt
                  have hl1 := HLL1.out
                  have hl2 := HLL2.out
                  have HC1B := Lib.hid (show ∀ d ∈ l1, d ≤ 64 from fun d hd => by
                    rw [← hl1] at hd
                    have := alD_le (by rw [HL1.out]; omega) d hd
                    have := HL1.out
                    omega)
                  have HC2B := Lib.hid (show ∀ d ∈ l2, d ≤ 64 from fun d hd => by
                    rw [← hl2] at hd
                    have := alD_le (by rw [HL2.out]; omega) d hd
                    have := HL2.out
                    omega)
                  have hs1 : l1.length ≤ 64 := by rw [← hl1, (alD_spec _ _ (Nat.le_refl _) (by rw [HL1.out]; omega)).1, HL1.out]; omega
                  have hs2 : l2.length ≤ 64 := by rw [← hl2, (alD_spec _ _ (Nat.le_refl _) (by rw [HL2.out]; omega)).1, HL2.out]; omega
                  obtain ⟨gx1, cx1, ex1, -, -, hg1⟩ := id HN1.out
                  cases ex1
                  obtain ⟨gx2, cx2, ex2, -, -, hg2⟩ := id HN2.out
                  cases ex2
                  have HC1 := Lib.hid hg1
                  have HC2 := Lib.hid hg2
                  clear hl1 hl2 hg1 hg2 HN1 HN2
                  go_loopg [7, 14] (l1.length + 1) (fun gg v7 vi wq => ∃ i : Nat, vi = .int .i64 (i : Int) ∧ i ≤ l1.length ∧ l1.length - i < gg ∧ Below Gd X16 wq ∧ wq.ownsRow Gd 3 1 v7 i (natV ((l1.take i).map (· + 1))))
                  case atStart => exact ⟨0, rfl, Nat.zero_le _, by omega, Below.refl _ _, by exact HO0X.out⟩
                  case round =>
  
                    obtain ⟨i, rfl, hi, hig, hgw, hown⟩ := hrel
                    have HGG := Lib.hid hig
                    have HGW := Lib.hid hgw
                    have HO := Lib.hid hown
                    clear hig hgw hown
                    by_cases hlt2 : i < l1.length
                    · have hltJ : (i : Int) < l1.length := by omega
                      obtain ⟨d, hd⟩ : ∃ d, l1[i]? = some d := ⟨l1[i], List.getElem?_eq_getElem hlt2⟩
                      have hd6 := HC1B.out d (List.mem_of_getElem? hd)
                      have c0 := (HGW.out.cell (p := ⟨g1, i, none⟩) Hg1.out).trans (HC1.out i d hd)
                      have HXN := Lib.hid (show natV ((l1.take (i + 1)).map (· + 1)) = natV ((l1.take i).map (· + 1)) ++ [.int .i64 ((d : Int) + 1)] from by rw [List.take_add_one, hd]; unfold natV; simp)
                      have HSZ := Lib.hid (Nat.le_trans HGX.out HGW.out.size)
                      clear hd
                      go_wp2_with (at_builtin; refine wpList_append_own _ rfl _ _ 22 rfl Gd 3 i0 (.int .i64 0) 1 8 Try.underlying22 hi0 hz0 hz1 hz2 rfl (by decide) _ _ (natV ((l1.take i).map (· + 1))) rfl (HO.out.alloc (.cells #[.int .i64 ((d : Int) + 1)] 3)) ⟨_, 0, none⟩ 1 1 [.int .i64 ((d : Int) + 1)] rfl rfl (World.news_of_block (cs := #[.int .i64 ((d : Int) + 1)]) (t := 3) (fr := (0, 0)) (heap_alloc_new _ _)) (by simp [Value.oneCell']) (by unfold maxLen; omega) (by omega) (by have := HSZ.out; simp; omega) ?_; intro v' w2 hown2 hgrow2 _)
                      go_roundg (l1.length - i)
                      case rel =>
                        refine ⟨i + 1, by go_num, by omega, by omega, ?_, ?_⟩
                        · exact (HGW.out.alloc HSZ.out _).grown hgrow2 (by have := HSZ.out; simp; omega) (fun k e => (own_base (HO.out.alloc (.cells #[.int .i64 ((d : Int) + 1)] 3)) e).1)
                        · rw [HXN.out]; exact hown2
                      case measure => have := HGG.out; omega
                    · obtain rfl : i = l1.length := by omega
                      have hB : decide ((l1.length : Int) < l1.length) = false := by simp
                      go_wp2_with fail
                      go_loopg [7, 15] (l2.length + 1) (fun gg v7 vi wq => ∃ i : Nat, vi = .int .i64 (i : Int) ∧ i ≤ l2.length ∧ l2.length - i < gg ∧ Below Gd X16 wq ∧ wq.ownsRow Gd 3 1 v7 (l1.length + i) (natV (l1.map (· + 1) ++ (l2.take i).map (· + 1))))
                      case atStart => exact ⟨0, rfl, Nat.zero_le _, by omega, HGW.out, by rw [List.take_zero, List.map_nil, List.append_nil]; have h := HO.out; rw [List.take_length] at h; exact h⟩
                      case round =>
                        clear HO HGW HGG
                        obtain ⟨i, rfl, hi, hig, hgw, hown⟩ := hrel
                        have HGG := Lib.hid hig
                        have HGW := Lib.hid hgw
                        have HO := Lib.hid hown
                        clear hig hgw hown
                        by_cases hlt2 : i < l2.length
                        · have hltJ : (i : Int) < l2.length := by omega
                          obtain ⟨d, hd⟩ : ∃ d, l2[i]? = some d := ⟨l2[i], List.getElem?_eq_getElem hlt2⟩
                          have hd6 := HC2B.out d (List.mem_of_getElem? hd)
                          have c0 := (HGW.out.cell (p := ⟨g2, i, none⟩) Hg2.out).trans (HC2.out i d hd)
                          have HXN := Lib.hid (show natV (l1.map (· + 1) ++ (l2.take (i + 1)).map (· + 1)) = natV (l1.map (· + 1) ++ (l2.take i).map (· + 1)) ++ [.int .i64 ((d : Int) + 1)] from by rw [List.take_add_one, hd]; unfold natV; simp)
                          have HSZ := Lib.hid (Nat.le_trans HGX.out HGW.out.size)
                          clear hd
                          go_wp2_with (at_builtin; refine wpList_append_own _ rfl _ _ 22 rfl Gd 3 i0 (.int .i64 0) 1 8 Try.underlying22 hi0 hz0 hz1 hz2 rfl (by decide) _ _ (natV (l1.map (· + 1) ++ (l2.take i).map (· + 1))) rfl (HO.out.alloc (.cells #[.int .i64 ((d : Int) + 1)] 3)) ⟨_, 0, none⟩ 1 1 [.int .i64 ((d : Int) + 1)] rfl rfl (World.news_of_block (cs := #[.int .i64 ((d : Int) + 1)]) (t := 3) (fr := (0, 0)) (heap_alloc_new _ _)) (by simp [Value.oneCell']) (by unfold maxLen; omega) (by omega) (by have := HSZ.out; simp; omega) ?_; intro v' w2 hown2 hgrow2 _)
                          go_roundg (l2.length - i)
                          case rel =>
                            refine ⟨i + 1, by go_num, by omega, by omega, ?_, ?_⟩
                            · exact (HGW.out.alloc HSZ.out _).grown hgrow2 (by have := HSZ.out; simp; omega) (fun k e => (own_base (HO.out.alloc (.cells #[.int .i64 ((d : Int) + 1)] 3)) e).1)
                            · rw [HXN.out]; exact hown2
                          case measure => have := HGG.out; omega
                        · obtain rfl : i = l2.length := by omega
                          have hB : decide ((l2.length : Int) < l2.length) = false := by simp
                          have HE4 := Lib.hid (HX4.out.at_below (by have := HPB.out; have := HNE.out; have := HGL.out; omega) HGW.out)
                          have HE6 := Lib.hid (HX6.out.at_below (by have := HPB.out; have := HNE.out; have := HGL.out; omega) HGW.out)
                          have HE2 := Lib.hid (HX2.out.at_below (by have := HPB.out; have := HNE.out; have := HGL.out; omega) HGW.out)
                          have HEB := Lib.hid (HXB.out.trans (HGW.out.mono (by have := HPB.out; have := HNE.out; have := HGL.out; omega)))
                          have hdb : l1.map (· + 1) ++ l2.map (· + 1) = dB Ws (k - 1) := by
                            unfold dB
                            rw [show k - 1 + 1 = k by omega, HLL1.out, HLL2.out]
                          have hown := HO.out
                          rw [List.take_length, hdb] at hown
                          have hdl : (dB Ws (k - 1)).length = l1.length + l2.length := by rw [← hdb, List.length_append, List.length_map, List.length_map]
                          rw [← hdl] at hown
                          have HND := Lib.hid (NR2.own hown (by have := HS1.out; omega))
                          clear hdb hown hdl HO HGW HGG
                          go_wp2_with fail
                          go_roundg (n - k)
                          case rel =>
                            refine ⟨k + 1, mg tt, by go_num, by omega, by omega, by omega, HE4.out, HE6.out, HE2.out, ?_, HEB.out⟩
                            rw [HSP.out]
                            exact BsI.more (by omega) HMR.out HND.out
                          case measure => have := HG.out; omega
            · obtain rfl : n = k := by omega
              have hB : decide ((n : Int) < n) = false := by simp
              obtain ⟨hst, hnr⟩ := HBS.out (by omega)
              have hac : alc Ws = bsS Ws S n := by rw [alc_more (by rw [HNN.out]; omega), HNN.out, HS'.out]; rfl
              have had : alD Ws.length Ws = dB Ws (minK (spl Ws) (n - 2)).1 := by rw [alD_own (by rw [HNN.out]; omega), HNN.out]
              have hdl : 1 ≤ (dB Ws (minK (spl Ws) (n - 2)).1).length := by rw [← had, (alD_spec _ _ (Nat.le_refl _) (by rw [HNN.out]; omega)).1, HNN.out]; omega
              obtain ⟨b, hb⟩ : ∃ b, bsS Ws S n = b := ⟨_, rfl⟩
              rw [hb] at hst hac
              subst hst
              have HAC := Lib.hid hac
              have HADD := Lib.hid had
              have z0 := HB2.out.z 0 (by simp)
              have z1 := HB2.out.z 1 (by simp)
              have y0 := HB2.out.at 0 _ rfl
              have y1 := HB2.out.at 1 _ rfl
              have x0 := HB6.out.at 0 _ rfl
              have x1 := HB6.out.at 1 _ rfl
              have HF := Lib.hid (HB2.out.set2 0 1 (.bool false) (.string (mg b)) (by simp) (by simp))
              have HNRF := Lib.hid (hnr.store hdl HB2.out (.bool false) (.string (mg b)))
              have HWF := Lib.hid ((HB.out.setCell (p := ⟨B, 0, none⟩) (by have := HBB.out; show w.heap.size ≤ B; omega) (.bool false)).setCell (p := ⟨B, 1, none⟩) (by have := HBB.out; show w.heap.size ≤ B; omega) (.string (mg b)))
              clear hb hac had hdl hnr HG
              go_wp2
              have p0 := HF.out.at 0 _ rfl
              have p1 := HF.out.at 1 _ rfl
              refine bodyPost_ret (v := .tuple #[.agg #[.bool false, .string (mg b)], u7]) (by simp [results, Try.results60, go_sem, p0, p1]) rfl ?_
              exact ⟨_, by rw [HAC.out], by rw [HADD.out]; exact HNRF.out, HWF.out⟩
end Go.Proofs.Gv
