import Derived.Test.YtamempcabmlodaaGreatDoorRefQ2P
import Derived.Test.YtamempcabmlodaaGreatDoorRefPrs
set_option maxHeartbeats 4000000
set_option maxRecDepth 100000
set_option linter.unusedSimpArgs false
set_option linter.unusedVariables false
namespace Go.Proofs.Gv
open Go Go.RowKit
def cutN (s : ByteArray) : ByteArray := if cutF s then cutA s else s
def cutD (s : ByteArray) : ByteArray := if cutF s then cutB s else ⟨#[49]⟩
def noS (s : ByteArray) (k : Nat) : Prop := ∀ j, j < k → at' s j ≠ 47
theorem at_list (s : ByteArray) (j : Nat) (h : j < s.size) : s.data.toList[j]'(by simpa using h) = at' s j := by
 unfold at'
 rw [List.getD_eq_getElem?_getD, List.getElem?_eq_getElem (by simpa using h), Option.getD_some]
theorem take_while_at : ∀ (l : List UInt8) (k : Nat), k < l.length → (∀ j (h : j < k), ∀ h2 : j < l.length, l[j] ≠ 47) → (∀ h2 : k < l.length, l[k] = 47) → (l.takeWhile (· != 47)).length = k ∧ l.dropWhile (· != 47) ≠ []
 | [], k, h, _, _ => by simp at h
 | x :: l, 0, h, _, h2 => by
   have : x = 47 := h2 (by simp)
   subst this
   exact ⟨rfl, by rw [List.dropWhile_cons_of_neg (by decide)]; simp⟩
 | x :: l, k + 1, h, h1, h2 => by
   have hx : (x != 47) = true := bne_iff_ne.2 (h1 0 (by omega) (by simp))
   have := take_while_at l k (by simpa using h) (fun j hj h3 => h1 (j + 1) (by omega) (by simpa using h3)) (fun h3 => h2 (by simpa using h3))
   rw [List.takeWhile_cons_of_pos (p := fun x : UInt8 => x != 47) hx, List.dropWhile_cons_of_pos (p := fun x : UInt8 => x != 47) hx]
   exact ⟨by simpa using this.1, this.2⟩
theorem cut_none {s : ByteArray} (h : noS s s.size) : cutF s = false := by
 have h1 : ∀ c ∈ s.data.toList, c ≠ 47 := by
  intro c hc
  obtain ⟨j, hj, rfl⟩ := List.getElem_of_mem hc
  have hj' : j < s.size := by simpa using hj
  rw [at_list s j hj']; exact h j hj'
 unfold cutF
 rw [(cut47_none h1).2]; rfl
theorem cut_some {s : ByteArray} {k : Nat} (hk : k < s.size) (h : noS s k) (hc : at' s k = 47) : cutF s = true ∧ s.extract 0 k = cutA s ∧ s.extract (k + 1) s.size = cutB s := by
 have hln : s.data.toList.length = s.size := by simp
 obtain ⟨h1, h2⟩ := take_while_at s.data.toList k (by omega) (fun j hj hj2 => by rw [at_list s j (by omega)]; exact h j hj) (fun h3 => by rw [at_list s k hk]; exact hc)
 refine ⟨?_, ?_, ?_⟩
 ·unfold cutF; cases hd : s.data.toList.dropWhile (· != 47) with | nil => exact absurd hd h2 | cons => rfl
 ·have := ByteArray.extract_mk s.data.toList 0 (s.data.toList.takeWhile (· != 47)).length
  rw [List.drop_zero, Nat.sub_zero, take47, h1] at this
  simpa [cutA] using this
 ·have := ByteArray.extract_mk s.data.toList ((s.data.toList.takeWhile (· != 47)).length + 1) s.size
  rw [drop47, List.take_of_length_le (by rw [← drop47, List.length_drop]; omega), h1] at this
  simpa [cutB] using this
theorem rParseQ_bad1 (s0 : ByteArray) (hs : s0.size ≤ 65536) {ny : Bool} {sy : ByteArray} {ey : Int} (w : World)
  (HX : GivesV 63 #[.string (cutN s0)] (.tuple #[.agg #[.bool false, .string ⟨#[]⟩], .int .i64 3]))
  (HY : GivesV 63 #[.string (cutD s0)] (.tuple #[.agg #[.bool ny, .string sy], .int .i64 ey]))
  : Calls Tryz.prog 34 #[.string s0] w fun e w' => e = .returned (.tuple #[.agg #[.bool false, .string ⟨#[]⟩, .bool false, .string ⟨#[]⟩], .int .i64 3]) ∧ Below w.heap.size w w' := by
 replace HX := Lib.hid HX
 replace HY := Lib.hid HY
 have hlo : decide ((65536 : Int) < s0.size) = false := decide_eq_false (by omega)
 have HSZ := Lib.hid hs
 clear hs
 have HL0 := Lib.hid ((Below.refl w.heap.size w).alloc (Nat.le_refl _) (.cells #[.bool false, .string ⟨#[]⟩, .bool false, .string ⟨#[]⟩] 25))
 have HB0 := Lib.hid (BC.new w w.heap.size #[.bool false, .string ⟨#[]⟩, .bool false, .string ⟨#[]⟩] 25 rfl)
 go_enter Tryz.func34, Tryz.ntmps34
 go_wp2_with fail
 go_loopg [4, 5, 6] (s0.size + 1) (fun gg v4 v5 v6 wr => ∃ k : Nat, v4 = .string s0 ∧ v5 = .string ⟨#[49]⟩ ∧ v6 = .int .i64 k ∧ k ≤ s0.size ∧ s0.size - k < gg ∧ noS s0 k ∧ Below w.heap.size w wr ∧ BC wr w.heap.size [.bool false, .string ⟨#[]⟩, .bool false, .string ⟨#[]⟩])
 case atStart => exact ⟨0, rfl, rfl, rfl, Nat.zero_le _, by omega, fun j hj => by omega, HL0.out, HB0.out⟩
 case round =>
  obtain ⟨k, rfl, rfl, rfl, hk, hg, hno, hL, hB⟩ := hrel
  have HNO := Lib.hid hno
  have HG := Lib.hid hg
  have HL900 := Lib.hid hL
  have HB900 := Lib.hid (show Bs [(w.heap.size, [.bool false, .string ⟨#[]⟩, .bool false, .string ⟨#[]⟩])] wr from ⟨hB, trivial⟩)
  have HOR := Lib.hid (show w.heap.size ≤ w.heap.size from Nat.le_refl _)
  clear hno hg hL hB HL0 HB0
  by_cases hks : k = s0.size
  ·subst hks
   have hkB : decide ((s0.size : Int) < s0.size) = false := decide_eq_false (by omega)
   have hF := cut_none HNO.out
   obtain ⟨sN, hN⟩ : ∃ x, s0 = x := ⟨_, rfl⟩
   have e1 : cutN s0 = s0 := by unfold cutN; rw [hF]; rfl
   have e2 : cutD s0 = ⟨#[49]⟩ := by unfold cutD; rw [hF]; rfl
   rw [e1] at HX
   rw [e2] at HY
   clear e1 e2 hF hN sN
   go_wp2_with fail
   refine (HX.out _).mono ?_
   rintro e w1 ⟨rfl, hb⟩
   obtain ⟨HL901, HB901⟩ := cameLB HL900 HB900 hb
   clear hb
   clear HL900 HB900
   have HO0 := Lib.hid (show w.heap.size < w1.heap.size from by have := (HB901.out.1).lt; first | omega | (simp at this; omega))
   obtain ⟨HL902, HB902⟩ := growLB HL901 HB901 (w1.heap.size) #[.bool false, .string ⟨#[]⟩] 23
   clear HL901 HB901
   go_wp2_with fail
   refine (HY.out _).mono ?_
   rintro e w2 ⟨rfl, hb⟩
   obtain ⟨HL903, HB903⟩ := cameLB HL902 HB902 hb
   clear hb
   clear HL902 HB902
   have HO1 := Lib.hid (show w1.heap.size < w2.heap.size from by have := (HB903.out.1).lt; first | omega | (simp at this; omega))
   obtain ⟨HL904, HB904⟩ := growLB HL903 HB903 (w2.heap.size) #[.bool ny, .string sy] 23
   clear HL903 HB903
   obtain ⟨fx0_0_904, fx0_1_904, fx0_2_904, fx0_3_904⟩ := (HB904.out.2.2.1).at4
   obtain ⟨fz0_0_904, fz0_1_904, fz0_2_904, fz0_3_904⟩ := (HB904.out.2.2.1).z4
   obtain ⟨HL905, HB905⟩ := keptLB (c := w.heap.size) [.bool false, .string ⟨#[]⟩, .bool false, .string ⟨#[]⟩] 0 2 HL904 HB904 (by have := HOR.out; have := HO0.out; have := HO1.out; omega) (by simp only [Bs.ap, Bs.ap0, List.length_cons, List.length_nil, and_true, true_and]; have := HOR.out; have := HO0.out; have := HO1.out; omega)
   simp only [setCs, setL, Bs.put, List.set_cons_succ, List.set_cons_zero, Nat.zero_add, Nat.reduceAdd] at HL905 HB905
   replace HL905 := Lib.hid HL905
   replace HB905 := Lib.hid HB905
   clear HL904 HB904
   obtain ⟨fx0_0_905, fx0_1_905, fx0_2_905, fx0_3_905⟩ := (HB905.out.2.2.1).at4
   go_wp2
   refine bodyPost_ret (v := .tuple #[.agg #[.bool false, .string ⟨#[]⟩, .bool false, .string ⟨#[]⟩], .int .i64 3]) (by simp [results, Tryz.results34, go_sem, fx0_0_905, fx0_1_905, fx0_2_905, fx0_3_905]) rfl ?_
   exact ⟨rfl, HL905.out⟩
  ·have hkl : k < s0.size := by omega
   have hs := HSZ.out
   have hkI : (k : Int) < s0.size := by omega
   have hk0 : (0 : Int) ≤ k := by omega
   have hat : s0[k]'hkl = at' s0 k := at'_eq hkl
   by_cases hc : at' s0 k = 47
   ·obtain ⟨hF, e1, e2⟩ := cut_some hkl HNO.out hc
    have hcI : ((at' s0 k).toNat : Int) = 47 := by rw [hc]; rfl
    have f1 : cutN s0 = s0.extract 0 k := by unfold cutN; rw [hF, e1]; rfl
    have f2 : cutD s0 = s0.extract (k + 1) s0.size := by unfold cutD; rw [hF, e2]; rfl
    have hk1 : (k : Int) ≤ s0.size := by omega
    have hk2 : (k : Int) + 1 ≤ s0.size := by omega
    rw [f1] at HX
    rw [f2] at HY
    obtain ⟨sN, hN⟩ : ∃ x, s0.extract 0 k = x := ⟨_, rfl⟩
    obtain ⟨sD, hD⟩ : ∃ x, s0.extract (k + 1) s0.size = x := ⟨_, rfl⟩
    rw [hN] at HX
    rw [hD] at HY
    clear hF e1 e2 f1 f2 hc hks
    go_wp2_with fail
    go_quiet (fail)
    generalize hq : wr.drewN _ = wq
    have HL901 := Lib.hid (show Below w.heap.size w wq by rw [← hq]; exact bstep HL900.out ⟨rfl, rfl, rfl, Nat.le_refl _, fun _ _ => rfl⟩)
    have HB901 := Lib.hid (show Bs [(w.heap.size, [.bool false, .string ⟨#[]⟩, .bool false, .string ⟨#[]⟩])] wq by rw [← hq]; exact HB900.out.bel ⟨rfl, rfl, rfl, Nat.le_refl _, fun _ _ => rfl⟩)
    clear HL900 HB900 hq hat hcI hk0 hkI hk1 hk2 hN hD
    go_wp2_with fail
    refine (HX.out _).mono ?_
    rintro e w1 ⟨rfl, hb⟩
    obtain ⟨HL902, HB902⟩ := cameLB HL901 HB901 hb
    clear hb
    clear HL901 HB901
    have HO0 := Lib.hid (show w.heap.size < w1.heap.size from by have := (HB902.out.1).lt; first | omega | (simp at this; omega))
    obtain ⟨HL903, HB903⟩ := growLB HL902 HB902 (w1.heap.size) #[.bool false, .string ⟨#[]⟩] 23
    clear HL902 HB902
    go_wp2_with fail
    refine (HY.out _).mono ?_
    rintro e w2 ⟨rfl, hb⟩
    obtain ⟨HL904, HB904⟩ := cameLB HL903 HB903 hb
    clear hb
    clear HL903 HB903
    have HO1 := Lib.hid (show w1.heap.size < w2.heap.size from by have := (HB904.out.1).lt; first | omega | (simp at this; omega))
    obtain ⟨HL905, HB905⟩ := growLB HL904 HB904 (w2.heap.size) #[.bool ny, .string sy] 23
    clear HL904 HB904
    obtain ⟨fx0_0_905, fx0_1_905, fx0_2_905, fx0_3_905⟩ := (HB905.out.2.2.1).at4
    obtain ⟨fz0_0_905, fz0_1_905, fz0_2_905, fz0_3_905⟩ := (HB905.out.2.2.1).z4
    obtain ⟨HL906, HB906⟩ := keptLB (c := w.heap.size) [.bool false, .string ⟨#[]⟩, .bool false, .string ⟨#[]⟩] 0 2 HL905 HB905 (by have := HOR.out; have := HO0.out; have := HO1.out; omega) (by simp only [Bs.ap, Bs.ap0, List.length_cons, List.length_nil, and_true, true_and]; have := HOR.out; have := HO0.out; have := HO1.out; omega)
    simp only [setCs, setL, Bs.put, List.set_cons_succ, List.set_cons_zero, Nat.zero_add, Nat.reduceAdd] at HL906 HB906
    replace HL906 := Lib.hid HL906
    replace HB906 := Lib.hid HB906
    clear HL905 HB905
    obtain ⟨fx0_0_906, fx0_1_906, fx0_2_906, fx0_3_906⟩ := (HB906.out.2.2.1).at4
    go_wp2
    refine bodyPost_ret (v := .tuple #[.agg #[.bool false, .string ⟨#[]⟩, .bool false, .string ⟨#[]⟩], .int .i64 3]) (by simp [results, Tryz.results34, go_sem, fx0_0_906, fx0_1_906, fx0_2_906, fx0_3_906]) rfl ?_
    exact ⟨rfl, HL906.out⟩
   ·have hcI : (((at' s0 k).toNat : Int) == 47) = false := beq_eq_false_iff_ne.2 fun h => hc (UInt8.toNat_inj.1 (by have h2 : (47 : UInt8).toNat = 47 := rfl; omega))
    go_wp2
    go_roundg (s0.size - k)
    case rel => exact ⟨k + 1, rfl, rfl, by go_num, by omega, by have := HG.out; omega, fun j hj => by rcases Nat.lt_succ_iff_lt_or_eq.1 hj with h | h; exact HNO.out j h; subst h; exact hc, HL900.out, HB900.out.1⟩
    case measure => exact HG.out
theorem rParseQ_bad2 (s0 : ByteArray) (hs : s0.size ≤ 65536) {nx : Bool} {sx : ByteArray} (w : World)
  (HX : GivesV 63 #[.string (cutN s0)] (.tuple #[.agg #[.bool nx, .string sx], .int .i64 0]))
  (HY : GivesV 63 #[.string (cutD s0)] (.tuple #[.agg #[.bool false, .string ⟨#[]⟩], .int .i64 3]))
  : Calls Tryz.prog 34 #[.string s0] w fun e w' => e = .returned (.tuple #[.agg #[.bool false, .string ⟨#[]⟩, .bool false, .string ⟨#[]⟩], .int .i64 3]) ∧ Below w.heap.size w w' := by
 replace HX := Lib.hid HX
 replace HY := Lib.hid HY
 have hlo : decide ((65536 : Int) < s0.size) = false := decide_eq_false (by omega)
 have HSZ := Lib.hid hs
 clear hs
 have HL0 := Lib.hid ((Below.refl w.heap.size w).alloc (Nat.le_refl _) (.cells #[.bool false, .string ⟨#[]⟩, .bool false, .string ⟨#[]⟩] 25))
 have HB0 := Lib.hid (BC.new w w.heap.size #[.bool false, .string ⟨#[]⟩, .bool false, .string ⟨#[]⟩] 25 rfl)
 go_enter Tryz.func34, Tryz.ntmps34
 go_wp2_with fail
 go_loopg [4, 5, 6] (s0.size + 1) (fun gg v4 v5 v6 wr => ∃ k : Nat, v4 = .string s0 ∧ v5 = .string ⟨#[49]⟩ ∧ v6 = .int .i64 k ∧ k ≤ s0.size ∧ s0.size - k < gg ∧ noS s0 k ∧ Below w.heap.size w wr ∧ BC wr w.heap.size [.bool false, .string ⟨#[]⟩, .bool false, .string ⟨#[]⟩])
 case atStart => exact ⟨0, rfl, rfl, rfl, Nat.zero_le _, by omega, fun j hj => by omega, HL0.out, HB0.out⟩
 case round =>
  obtain ⟨k, rfl, rfl, rfl, hk, hg, hno, hL, hB⟩ := hrel
  have HNO := Lib.hid hno
  have HG := Lib.hid hg
  have HL900 := Lib.hid hL
  have HB900 := Lib.hid (show Bs [(w.heap.size, [.bool false, .string ⟨#[]⟩, .bool false, .string ⟨#[]⟩])] wr from ⟨hB, trivial⟩)
  have HOR := Lib.hid (show w.heap.size ≤ w.heap.size from Nat.le_refl _)
  clear hno hg hL hB HL0 HB0
  by_cases hks : k = s0.size
  ·subst hks
   have hkB : decide ((s0.size : Int) < s0.size) = false := decide_eq_false (by omega)
   have hF := cut_none HNO.out
   obtain ⟨sN, hN⟩ : ∃ x, s0 = x := ⟨_, rfl⟩
   have e1 : cutN s0 = s0 := by unfold cutN; rw [hF]; rfl
   have e2 : cutD s0 = ⟨#[49]⟩ := by unfold cutD; rw [hF]; rfl
   rw [e1] at HX
   rw [e2] at HY
   clear e1 e2 hF hN sN
   go_wp2_with fail
   refine (HX.out _).mono ?_
   rintro e w1 ⟨rfl, hb⟩
   obtain ⟨HL901, HB901⟩ := cameLB HL900 HB900 hb
   clear hb
   clear HL900 HB900
   have HO0 := Lib.hid (show w.heap.size < w1.heap.size from by have := (HB901.out.1).lt; first | omega | (simp at this; omega))
   obtain ⟨HL902, HB902⟩ := growLB HL901 HB901 (w1.heap.size) #[.bool nx, .string sx] 23
   clear HL901 HB901
   go_wp2_with fail
   refine (HY.out _).mono ?_
   rintro e w2 ⟨rfl, hb⟩
   obtain ⟨HL903, HB903⟩ := cameLB HL902 HB902 hb
   clear hb
   clear HL902 HB902
   have HO1 := Lib.hid (show w1.heap.size < w2.heap.size from by have := (HB903.out.1).lt; first | omega | (simp at this; omega))
   obtain ⟨HL904, HB904⟩ := growLB HL903 HB903 (w2.heap.size) #[.bool false, .string ⟨#[]⟩] 23
   clear HL903 HB903
   obtain ⟨fx0_0_904, fx0_1_904, fx0_2_904, fx0_3_904⟩ := (HB904.out.2.2.1).at4
   obtain ⟨fz0_0_904, fz0_1_904, fz0_2_904, fz0_3_904⟩ := (HB904.out.2.2.1).z4
   obtain ⟨HL905, HB905⟩ := keptLB (c := w.heap.size) [.bool false, .string ⟨#[]⟩, .bool false, .string ⟨#[]⟩] 0 2 HL904 HB904 (by have := HOR.out; have := HO0.out; have := HO1.out; omega) (by simp only [Bs.ap, Bs.ap0, List.length_cons, List.length_nil, and_true, true_and]; have := HOR.out; have := HO0.out; have := HO1.out; omega)
   simp only [setCs, setL, Bs.put, List.set_cons_succ, List.set_cons_zero, Nat.zero_add, Nat.reduceAdd] at HL905 HB905
   replace HL905 := Lib.hid HL905
   replace HB905 := Lib.hid HB905
   clear HL904 HB904
   obtain ⟨fx0_0_905, fx0_1_905, fx0_2_905, fx0_3_905⟩ := (HB905.out.2.2.1).at4
   go_wp2
   refine bodyPost_ret (v := .tuple #[.agg #[.bool false, .string ⟨#[]⟩, .bool false, .string ⟨#[]⟩], .int .i64 3]) (by simp [results, Tryz.results34, go_sem, fx0_0_905, fx0_1_905, fx0_2_905, fx0_3_905]) rfl ?_
   exact ⟨rfl, HL905.out⟩
  ·have hkl : k < s0.size := by omega
   have hs := HSZ.out
   have hkI : (k : Int) < s0.size := by omega
   have hk0 : (0 : Int) ≤ k := by omega
   have hat : s0[k]'hkl = at' s0 k := at'_eq hkl
   by_cases hc : at' s0 k = 47
   ·obtain ⟨hF, e1, e2⟩ := cut_some hkl HNO.out hc
    have hcI : ((at' s0 k).toNat : Int) = 47 := by rw [hc]; rfl
    have f1 : cutN s0 = s0.extract 0 k := by unfold cutN; rw [hF, e1]; rfl
    have f2 : cutD s0 = s0.extract (k + 1) s0.size := by unfold cutD; rw [hF, e2]; rfl
    have hk1 : (k : Int) ≤ s0.size := by omega
    have hk2 : (k : Int) + 1 ≤ s0.size := by omega
    rw [f1] at HX
    rw [f2] at HY
    obtain ⟨sN, hN⟩ : ∃ x, s0.extract 0 k = x := ⟨_, rfl⟩
    obtain ⟨sD, hD⟩ : ∃ x, s0.extract (k + 1) s0.size = x := ⟨_, rfl⟩
    rw [hN] at HX
    rw [hD] at HY
    clear hF e1 e2 f1 f2 hc hks
    go_wp2_with fail
    go_quiet (fail)
    generalize hq : wr.drewN _ = wq
    have HL901 := Lib.hid (show Below w.heap.size w wq by rw [← hq]; exact bstep HL900.out ⟨rfl, rfl, rfl, Nat.le_refl _, fun _ _ => rfl⟩)
    have HB901 := Lib.hid (show Bs [(w.heap.size, [.bool false, .string ⟨#[]⟩, .bool false, .string ⟨#[]⟩])] wq by rw [← hq]; exact HB900.out.bel ⟨rfl, rfl, rfl, Nat.le_refl _, fun _ _ => rfl⟩)
    clear HL900 HB900 hq hat hcI hk0 hkI hk1 hk2 hN hD
    go_wp2_with fail
    refine (HX.out _).mono ?_
    rintro e w1 ⟨rfl, hb⟩
    obtain ⟨HL902, HB902⟩ := cameLB HL901 HB901 hb
    clear hb
    clear HL901 HB901
    have HO0 := Lib.hid (show w.heap.size < w1.heap.size from by have := (HB902.out.1).lt; first | omega | (simp at this; omega))
    obtain ⟨HL903, HB903⟩ := growLB HL902 HB902 (w1.heap.size) #[.bool nx, .string sx] 23
    clear HL902 HB902
    go_wp2_with fail
    refine (HY.out _).mono ?_
    rintro e w2 ⟨rfl, hb⟩
    obtain ⟨HL904, HB904⟩ := cameLB HL903 HB903 hb
    clear hb
    clear HL903 HB903
    have HO1 := Lib.hid (show w1.heap.size < w2.heap.size from by have := (HB904.out.1).lt; first | omega | (simp at this; omega))
    obtain ⟨HL905, HB905⟩ := growLB HL904 HB904 (w2.heap.size) #[.bool false, .string ⟨#[]⟩] 23
    clear HL904 HB904
    obtain ⟨fx0_0_905, fx0_1_905, fx0_2_905, fx0_3_905⟩ := (HB905.out.2.2.1).at4
    obtain ⟨fz0_0_905, fz0_1_905, fz0_2_905, fz0_3_905⟩ := (HB905.out.2.2.1).z4
    obtain ⟨HL906, HB906⟩ := keptLB (c := w.heap.size) [.bool false, .string ⟨#[]⟩, .bool false, .string ⟨#[]⟩] 0 2 HL905 HB905 (by have := HOR.out; have := HO0.out; have := HO1.out; omega) (by simp only [Bs.ap, Bs.ap0, List.length_cons, List.length_nil, and_true, true_and]; have := HOR.out; have := HO0.out; have := HO1.out; omega)
    simp only [setCs, setL, Bs.put, List.set_cons_succ, List.set_cons_zero, Nat.zero_add, Nat.reduceAdd] at HL906 HB906
    replace HL906 := Lib.hid HL906
    replace HB906 := Lib.hid HB906
    clear HL905 HB905
    obtain ⟨fx0_0_906, fx0_1_906, fx0_2_906, fx0_3_906⟩ := (HB906.out.2.2.1).at4
    go_wp2
    refine bodyPost_ret (v := .tuple #[.agg #[.bool false, .string ⟨#[]⟩, .bool false, .string ⟨#[]⟩], .int .i64 3]) (by simp [results, Tryz.results34, go_sem, fx0_0_906, fx0_1_906, fx0_2_906, fx0_3_906]) rfl ?_
    exact ⟨rfl, HL906.out⟩
   ·have hcI : (((at' s0 k).toNat : Int) == 47) = false := beq_eq_false_iff_ne.2 fun h => hc (UInt8.toNat_inj.1 (by have h2 : (47 : UInt8).toNat = 47 := rfl; omega))
    go_wp2
    go_roundg (s0.size - k)
    case rel => exact ⟨k + 1, rfl, rfl, by go_num, by omega, by have := HG.out; omega, fun j hj => by rcases Nat.lt_succ_iff_lt_or_eq.1 hj with h | h; exact HNO.out j h; subst h; exact hc, HL900.out, HB900.out.1⟩
    case measure => exact HG.out
theorem rParseQ_bad3 (s0 : ByteArray) (hs : s0.size ≤ 65536) {nx ny : Bool} {sx sy : ByteArray} {c1 : Int} (h1 : c1 ≤ 0) (w : World)
  (HX : GivesV 63 #[.string (cutN s0)] (.tuple #[.agg #[.bool nx, .string sx], .int .i64 0]))
  (HY : GivesV 63 #[.string (cutD s0)] (.tuple #[.agg #[.bool ny, .string sy], .int .i64 0]))
  (HS : GivesV 42 #[.agg #[.bool ny, .string sy]] (.int .i64 c1))
  : Calls Tryz.prog 34 #[.string s0] w fun e w' => e = .returned (.tuple #[.agg #[.bool false, .string ⟨#[]⟩, .bool false, .string ⟨#[]⟩], .int .i64 3]) ∧ Below w.heap.size w w' := by
 replace HX := Lib.hid HX
 replace HY := Lib.hid HY
 replace HS := Lib.hid HS
 have hlo : decide ((65536 : Int) < s0.size) = false := decide_eq_false (by omega)
 have HSZ := Lib.hid hs
 clear hs
 have HL0 := Lib.hid ((Below.refl w.heap.size w).alloc (Nat.le_refl _) (.cells #[.bool false, .string ⟨#[]⟩, .bool false, .string ⟨#[]⟩] 25))
 have HB0 := Lib.hid (BC.new w w.heap.size #[.bool false, .string ⟨#[]⟩, .bool false, .string ⟨#[]⟩] 25 rfl)
 go_enter Tryz.func34, Tryz.ntmps34
 go_wp2_with fail
 go_loopg [4, 5, 6] (s0.size + 1) (fun gg v4 v5 v6 wr => ∃ k : Nat, v4 = .string s0 ∧ v5 = .string ⟨#[49]⟩ ∧ v6 = .int .i64 k ∧ k ≤ s0.size ∧ s0.size - k < gg ∧ noS s0 k ∧ Below w.heap.size w wr ∧ BC wr w.heap.size [.bool false, .string ⟨#[]⟩, .bool false, .string ⟨#[]⟩])
 case atStart => exact ⟨0, rfl, rfl, rfl, Nat.zero_le _, by omega, fun j hj => by omega, HL0.out, HB0.out⟩
 case round =>
  obtain ⟨k, rfl, rfl, rfl, hk, hg, hno, hL, hB⟩ := hrel
  have HNO := Lib.hid hno
  have HG := Lib.hid hg
  have HL900 := Lib.hid hL
  have HB900 := Lib.hid (show Bs [(w.heap.size, [.bool false, .string ⟨#[]⟩, .bool false, .string ⟨#[]⟩])] wr from ⟨hB, trivial⟩)
  have HOR := Lib.hid (show w.heap.size ≤ w.heap.size from Nat.le_refl _)
  clear hno hg hL hB HL0 HB0
  by_cases hks : k = s0.size
  ·subst hks
   have hkB : decide ((s0.size : Int) < s0.size) = false := decide_eq_false (by omega)
   have hF := cut_none HNO.out
   obtain ⟨sN, hN⟩ : ∃ x, s0 = x := ⟨_, rfl⟩
   have e1 : cutN s0 = s0 := by unfold cutN; rw [hF]; rfl
   have e2 : cutD s0 = ⟨#[49]⟩ := by unfold cutD; rw [hF]; rfl
   rw [e1] at HX
   rw [e2] at HY
   clear e1 e2 hF hN sN
   go_wp2_with fail
   refine (HX.out _).mono ?_
   rintro e w1 ⟨rfl, hb⟩
   obtain ⟨HL901, HB901⟩ := cameLB HL900 HB900 hb
   clear hb
   clear HL900 HB900
   have HO0 := Lib.hid (show w.heap.size < w1.heap.size from by have := (HB901.out.1).lt; first | omega | (simp at this; omega))
   obtain ⟨HL902, HB902⟩ := growLB HL901 HB901 (w1.heap.size) #[.bool nx, .string sx] 23
   clear HL901 HB901
   go_wp2_with fail
   refine (HY.out _).mono ?_
   rintro e w2 ⟨rfl, hb⟩
   obtain ⟨HL903, HB903⟩ := cameLB HL902 HB902 hb
   clear hb
   clear HL902 HB902
   have HO1 := Lib.hid (show w1.heap.size < w2.heap.size from by have := (HB903.out.1).lt; first | omega | (simp at this; omega))
   obtain ⟨HL904, HB904⟩ := growLB HL903 HB903 (w2.heap.size) #[.bool ny, .string sy] 23
   clear HL903 HB903
   obtain ⟨fx2_0_904, fx2_1_904⟩ := (HB904.out.1).at2
   go_wp2_with fail
   refine (HS.out _).mono ?_
   rintro e w3 ⟨rfl, hb⟩
   obtain ⟨HL905, HB905⟩ := cameLB HL904 HB904 hb
   clear hb
   clear HL904 HB904 fx2_0_904 fx2_1_904
   obtain ⟨fx0_0_905, fx0_1_905, fx0_2_905, fx0_3_905⟩ := (HB905.out.2.2.1).at4
   obtain ⟨fz0_0_905, fz0_1_905, fz0_2_905, fz0_3_905⟩ := (HB905.out.2.2.1).z4
   obtain ⟨HL906, HB906⟩ := keptLB (c := w.heap.size) [.bool false, .string ⟨#[]⟩, .bool false, .string ⟨#[]⟩] 0 2 HL905 HB905 (by have := HOR.out; have := HO0.out; have := HO1.out; omega) (by simp only [Bs.ap, Bs.ap0, List.length_cons, List.length_nil, and_true, true_and]; have := HOR.out; have := HO0.out; have := HO1.out; omega)
   simp only [setCs, setL, Bs.put, List.set_cons_succ, List.set_cons_zero, Nat.zero_add, Nat.reduceAdd] at HL906 HB906
   replace HL906 := Lib.hid HL906
   replace HB906 := Lib.hid HB906
   clear HL905 HB905
   obtain ⟨fx0_0_906, fx0_1_906, fx0_2_906, fx0_3_906⟩ := (HB906.out.2.2.1).at4
   go_wp2
   refine bodyPost_ret (v := .tuple #[.agg #[.bool false, .string ⟨#[]⟩, .bool false, .string ⟨#[]⟩], .int .i64 3]) (by simp [results, Tryz.results34, go_sem, fx0_0_906, fx0_1_906, fx0_2_906, fx0_3_906]) rfl ?_
   exact ⟨rfl, HL906.out⟩
  ·have hkl : k < s0.size := by omega
   have hs := HSZ.out
   have hkI : (k : Int) < s0.size := by omega
   have hk0 : (0 : Int) ≤ k := by omega
   have hat : s0[k]'hkl = at' s0 k := at'_eq hkl
   by_cases hc : at' s0 k = 47
   ·obtain ⟨hF, e1, e2⟩ := cut_some hkl HNO.out hc
    have hcI : ((at' s0 k).toNat : Int) = 47 := by rw [hc]; rfl
    have f1 : cutN s0 = s0.extract 0 k := by unfold cutN; rw [hF, e1]; rfl
    have f2 : cutD s0 = s0.extract (k + 1) s0.size := by unfold cutD; rw [hF, e2]; rfl
    have hk1 : (k : Int) ≤ s0.size := by omega
    have hk2 : (k : Int) + 1 ≤ s0.size := by omega
    rw [f1] at HX
    rw [f2] at HY
    obtain ⟨sN, hN⟩ : ∃ x, s0.extract 0 k = x := ⟨_, rfl⟩
    obtain ⟨sD, hD⟩ : ∃ x, s0.extract (k + 1) s0.size = x := ⟨_, rfl⟩
    rw [hN] at HX
    rw [hD] at HY
    clear hF e1 e2 f1 f2 hc hks
    go_wp2_with fail
    go_quiet (fail)
    generalize hq : wr.drewN _ = wq
    have HL901 := Lib.hid (show Below w.heap.size w wq by rw [← hq]; exact bstep HL900.out ⟨rfl, rfl, rfl, Nat.le_refl _, fun _ _ => rfl⟩)
    have HB901 := Lib.hid (show Bs [(w.heap.size, [.bool false, .string ⟨#[]⟩, .bool false, .string ⟨#[]⟩])] wq by rw [← hq]; exact HB900.out.bel ⟨rfl, rfl, rfl, Nat.le_refl _, fun _ _ => rfl⟩)
    clear HL900 HB900 hq hat hcI hk0 hkI hk1 hk2 hN hD
    go_wp2_with fail
    refine (HX.out _).mono ?_
    rintro e w1 ⟨rfl, hb⟩
    obtain ⟨HL902, HB902⟩ := cameLB HL901 HB901 hb
    clear hb
    clear HL901 HB901
    have HO0 := Lib.hid (show w.heap.size < w1.heap.size from by have := (HB902.out.1).lt; first | omega | (simp at this; omega))
    obtain ⟨HL903, HB903⟩ := growLB HL902 HB902 (w1.heap.size) #[.bool nx, .string sx] 23
    clear HL902 HB902
    go_wp2_with fail
    refine (HY.out _).mono ?_
    rintro e w2 ⟨rfl, hb⟩
    obtain ⟨HL904, HB904⟩ := cameLB HL903 HB903 hb
    clear hb
    clear HL903 HB903
    have HO1 := Lib.hid (show w1.heap.size < w2.heap.size from by have := (HB904.out.1).lt; first | omega | (simp at this; omega))
    obtain ⟨HL905, HB905⟩ := growLB HL904 HB904 (w2.heap.size) #[.bool ny, .string sy] 23
    clear HL904 HB904
    obtain ⟨fx2_0_905, fx2_1_905⟩ := (HB905.out.1).at2
    go_wp2_with fail
    refine (HS.out _).mono ?_
    rintro e w3 ⟨rfl, hb⟩
    obtain ⟨HL906, HB906⟩ := cameLB HL905 HB905 hb
    clear hb
    clear HL905 HB905 fx2_0_905 fx2_1_905
    obtain ⟨fx0_0_906, fx0_1_906, fx0_2_906, fx0_3_906⟩ := (HB906.out.2.2.1).at4
    obtain ⟨fz0_0_906, fz0_1_906, fz0_2_906, fz0_3_906⟩ := (HB906.out.2.2.1).z4
    obtain ⟨HL907, HB907⟩ := keptLB (c := w.heap.size) [.bool false, .string ⟨#[]⟩, .bool false, .string ⟨#[]⟩] 0 2 HL906 HB906 (by have := HOR.out; have := HO0.out; have := HO1.out; omega) (by simp only [Bs.ap, Bs.ap0, List.length_cons, List.length_nil, and_true, true_and]; have := HOR.out; have := HO0.out; have := HO1.out; omega)
    simp only [setCs, setL, Bs.put, List.set_cons_succ, List.set_cons_zero, Nat.zero_add, Nat.reduceAdd] at HL907 HB907
    replace HL907 := Lib.hid HL907
    replace HB907 := Lib.hid HB907
    clear HL906 HB906
    obtain ⟨fx0_0_907, fx0_1_907, fx0_2_907, fx0_3_907⟩ := (HB907.out.2.2.1).at4
    go_wp2
    refine bodyPost_ret (v := .tuple #[.agg #[.bool false, .string ⟨#[]⟩, .bool false, .string ⟨#[]⟩], .int .i64 3]) (by simp [results, Tryz.results34, go_sem, fx0_0_907, fx0_1_907, fx0_2_907, fx0_3_907]) rfl ?_
    exact ⟨rfl, HL907.out⟩
   ·have hcI : (((at' s0 k).toNat : Int) == 47) = false := beq_eq_false_iff_ne.2 fun h => hc (UInt8.toNat_inj.1 (by have h2 : (47 : UInt8).toNat = 47 := rfl; omega))
    go_wp2
    go_roundg (s0.size - k)
    case rel => exact ⟨k + 1, rfl, rfl, by go_num, by omega, by have := HG.out; omega, fun j hj => by rcases Nat.lt_succ_iff_lt_or_eq.1 hj with h | h; exact HNO.out j h; subst h; exact hc, HL900.out, HB900.out.1⟩
    case measure => exact HG.out
theorem rParseQ_ok (s0 : ByteArray) (hs : s0.size ≤ 65536) {nx ny nr mr : Bool} {sx sy sr tr st_ : ByteArray} {c1 : Int} (h1 : decide (c1 ≤ 0) = false) (h2 : (st_.toList == s0.toList) = true) (w : World)
  (HX : GivesV 63 #[.string (cutN s0)] (.tuple #[.agg #[.bool nx, .string sx], .int .i64 0]))
  (HY : GivesV 63 #[.string (cutD s0)] (.tuple #[.agg #[.bool ny, .string sy], .int .i64 0]))
  (HS : GivesV 42 #[.agg #[.bool ny, .string sy]] (.int .i64 c1))
  (HLo : GivesV 43 #[.agg #[.bool nx, .string sx], .agg #[.bool ny, .string sy]] (.agg #[.bool nr, .string sr, .bool mr, .string tr]))
  (HPr : GivesV 36 #[.agg #[.bool nr, .string sr, .bool mr, .string tr]] (.string st_))
  : Calls Tryz.prog 34 #[.string s0] w fun e w' => e = .returned (.tuple #[.agg #[.bool nr, .string sr, .bool mr, .string tr], .int .i64 0]) ∧ Below w.heap.size w w' := by
 replace HX := Lib.hid HX
 replace HY := Lib.hid HY
 replace HS := Lib.hid HS
 replace HLo := Lib.hid HLo
 replace HPr := Lib.hid HPr
 have hlo : decide ((65536 : Int) < s0.size) = false := decide_eq_false (by omega)
 have HSZ := Lib.hid hs
 clear hs
 have HL0 := Lib.hid ((Below.refl w.heap.size w).alloc (Nat.le_refl _) (.cells #[.bool false, .string ⟨#[]⟩, .bool false, .string ⟨#[]⟩] 25))
 have HB0 := Lib.hid (BC.new w w.heap.size #[.bool false, .string ⟨#[]⟩, .bool false, .string ⟨#[]⟩] 25 rfl)
 go_enter Tryz.func34, Tryz.ntmps34
 go_wp2_with fail
 go_loopg [4, 5, 6] (s0.size + 1) (fun gg v4 v5 v6 wr => ∃ k : Nat, v4 = .string s0 ∧ v5 = .string ⟨#[49]⟩ ∧ v6 = .int .i64 k ∧ k ≤ s0.size ∧ s0.size - k < gg ∧ noS s0 k ∧ Below w.heap.size w wr ∧ BC wr w.heap.size [.bool false, .string ⟨#[]⟩, .bool false, .string ⟨#[]⟩])
 case atStart => exact ⟨0, rfl, rfl, rfl, Nat.zero_le _, by omega, fun j hj => by omega, HL0.out, HB0.out⟩
 case round =>
  obtain ⟨k, rfl, rfl, rfl, hk, hg, hno, hL, hB⟩ := hrel
  have HNO := Lib.hid hno
  have HG := Lib.hid hg
  have HL900 := Lib.hid hL
  have HB900 := Lib.hid (show Bs [(w.heap.size, [.bool false, .string ⟨#[]⟩, .bool false, .string ⟨#[]⟩])] wr from ⟨hB, trivial⟩)
  have HOR := Lib.hid (show w.heap.size ≤ w.heap.size from Nat.le_refl _)
  clear hno hg hL hB HL0 HB0
  by_cases hks : k = s0.size
  ·subst hks
   have hkB : decide ((s0.size : Int) < s0.size) = false := decide_eq_false (by omega)
   have hF := cut_none HNO.out
   obtain ⟨sN, hN⟩ : ∃ x, s0 = x := ⟨_, rfl⟩
   have e1 : cutN s0 = s0 := by unfold cutN; rw [hF]; rfl
   have e2 : cutD s0 = ⟨#[49]⟩ := by unfold cutD; rw [hF]; rfl
   rw [e1] at HX
   rw [e2] at HY
   clear e1 e2 hF hN sN
   go_wp2_with fail
   refine (HX.out _).mono ?_
   rintro e w1 ⟨rfl, hb⟩
   obtain ⟨HL901, HB901⟩ := cameLB HL900 HB900 hb
   clear hb
   clear HL900 HB900
   have HO0 := Lib.hid (show w.heap.size < w1.heap.size from by have := (HB901.out.1).lt; first | omega | (simp at this; omega))
   obtain ⟨HL902, HB902⟩ := growLB HL901 HB901 (w1.heap.size) #[.bool nx, .string sx] 23
   clear HL901 HB901
   go_wp2_with fail
   refine (HY.out _).mono ?_
   rintro e w2 ⟨rfl, hb⟩
   obtain ⟨HL903, HB903⟩ := cameLB HL902 HB902 hb
   clear hb
   clear HL902 HB902
   have HO1 := Lib.hid (show w1.heap.size < w2.heap.size from by have := (HB903.out.1).lt; first | omega | (simp at this; omega))
   obtain ⟨HL904, HB904⟩ := growLB HL903 HB903 (w2.heap.size) #[.bool ny, .string sy] 23
   clear HL903 HB903
   obtain ⟨fx2_0_904, fx2_1_904⟩ := (HB904.out.1).at2
   go_wp2_with fail
   refine (HS.out _).mono ?_
   rintro e w3 ⟨rfl, hb⟩
   obtain ⟨HL905, HB905⟩ := cameLB HL904 HB904 hb
   clear hb
   clear HL904 HB904 fx2_0_904 fx2_1_904
   obtain ⟨fx1_0_905, fx1_1_905⟩ := (HB905.out.2.1).at2
   obtain ⟨fx2_0_905, fx2_1_905⟩ := (HB905.out.1).at2
   go_wp2_with fail
   refine (HLo.out _).mono ?_
   rintro e w4 ⟨rfl, hb⟩
   obtain ⟨HL906, HB906⟩ := cameLB HL905 HB905 hb
   clear hb
   clear HL905 HB905 fx1_0_905 fx1_1_905 fx2_0_905 fx2_1_905
   have HO2 := Lib.hid (show w2.heap.size < w4.heap.size from by have := (HB906.out.1).lt; first | omega | (simp at this; omega))
   obtain ⟨HL907, HB907⟩ := growLB HL906 HB906 (w4.heap.size) #[.bool nr, .string sr, .bool mr, .string tr] 25
   clear HL906 HB906
   obtain ⟨fx3_0_907, fx3_1_907, fx3_2_907, fx3_3_907⟩ := (HB907.out.1).at4
   go_wp2_with fail
   refine (HPr.out _).mono ?_
   rintro e w5 ⟨rfl, hb⟩
   obtain ⟨HL908, HB908⟩ := cameLB HL907 HB907 hb
   clear hb
   clear HL907 HB907 fx3_0_907 fx3_1_907 fx3_2_907 fx3_3_907
   obtain ⟨fx3_0_908, fx3_1_908, fx3_2_908, fx3_3_908⟩ := (HB908.out.1).at4
   obtain ⟨fx0_0_908, fx0_1_908, fx0_2_908, fx0_3_908⟩ := (HB908.out.2.2.2.1).at4
   obtain ⟨fz0_0_908, fz0_1_908, fz0_2_908, fz0_3_908⟩ := (HB908.out.2.2.2.1).z4
   obtain ⟨HL909, HB909⟩ := keptLB (c := w.heap.size) [.bool nr, .string sr, .bool mr, .string tr] 0 3 HL908 HB908 (by have := HOR.out; have := HO0.out; have := HO1.out; have := HO2.out; omega) (by simp only [Bs.ap, Bs.ap0, List.length_cons, List.length_nil, and_true, true_and]; have := HOR.out; have := HO0.out; have := HO1.out; have := HO2.out; omega)
   simp only [setCs, setL, Bs.put, List.set_cons_succ, List.set_cons_zero, Nat.zero_add, Nat.reduceAdd] at HL909 HB909
   replace HL909 := Lib.hid HL909
   replace HB909 := Lib.hid HB909
   clear HL908 HB908
   obtain ⟨fx0_0_909, fx0_1_909, fx0_2_909, fx0_3_909⟩ := (HB909.out.2.2.2.1).at4
   go_wp2
   refine bodyPost_ret (v := .tuple #[.agg #[.bool nr, .string sr, .bool mr, .string tr], .int .i64 0]) (by simp [results, Tryz.results34, go_sem, fx0_0_909, fx0_1_909, fx0_2_909, fx0_3_909]) rfl ?_
   exact ⟨rfl, HL909.out⟩
  ·have hkl : k < s0.size := by omega
   have hs := HSZ.out
   have hkI : (k : Int) < s0.size := by omega
   have hk0 : (0 : Int) ≤ k := by omega
   have hat : s0[k]'hkl = at' s0 k := at'_eq hkl
   by_cases hc : at' s0 k = 47
   ·obtain ⟨hF, e1, e2⟩ := cut_some hkl HNO.out hc
    have hcI : ((at' s0 k).toNat : Int) = 47 := by rw [hc]; rfl
    have f1 : cutN s0 = s0.extract 0 k := by unfold cutN; rw [hF, e1]; rfl
    have f2 : cutD s0 = s0.extract (k + 1) s0.size := by unfold cutD; rw [hF, e2]; rfl
    have hk1 : (k : Int) ≤ s0.size := by omega
    have hk2 : (k : Int) + 1 ≤ s0.size := by omega
    rw [f1] at HX
    rw [f2] at HY
    obtain ⟨sN, hN⟩ : ∃ x, s0.extract 0 k = x := ⟨_, rfl⟩
    obtain ⟨sD, hD⟩ : ∃ x, s0.extract (k + 1) s0.size = x := ⟨_, rfl⟩
    rw [hN] at HX
    rw [hD] at HY
    clear hF e1 e2 f1 f2 hc hks
    go_wp2_with fail
    go_quiet (fail)
    generalize hq : wr.drewN _ = wq
    have HL901 := Lib.hid (show Below w.heap.size w wq by rw [← hq]; exact bstep HL900.out ⟨rfl, rfl, rfl, Nat.le_refl _, fun _ _ => rfl⟩)
    have HB901 := Lib.hid (show Bs [(w.heap.size, [.bool false, .string ⟨#[]⟩, .bool false, .string ⟨#[]⟩])] wq by rw [← hq]; exact HB900.out.bel ⟨rfl, rfl, rfl, Nat.le_refl _, fun _ _ => rfl⟩)
    clear HL900 HB900 hq hat hcI hk0 hkI hk1 hk2 hN hD
    go_wp2_with fail
    refine (HX.out _).mono ?_
    rintro e w1 ⟨rfl, hb⟩
    obtain ⟨HL902, HB902⟩ := cameLB HL901 HB901 hb
    clear hb
    clear HL901 HB901
    have HO0 := Lib.hid (show w.heap.size < w1.heap.size from by have := (HB902.out.1).lt; first | omega | (simp at this; omega))
    obtain ⟨HL903, HB903⟩ := growLB HL902 HB902 (w1.heap.size) #[.bool nx, .string sx] 23
    clear HL902 HB902
    go_wp2_with fail
    refine (HY.out _).mono ?_
    rintro e w2 ⟨rfl, hb⟩
    obtain ⟨HL904, HB904⟩ := cameLB HL903 HB903 hb
    clear hb
    clear HL903 HB903
    have HO1 := Lib.hid (show w1.heap.size < w2.heap.size from by have := (HB904.out.1).lt; first | omega | (simp at this; omega))
    obtain ⟨HL905, HB905⟩ := growLB HL904 HB904 (w2.heap.size) #[.bool ny, .string sy] 23
    clear HL904 HB904
    obtain ⟨fx2_0_905, fx2_1_905⟩ := (HB905.out.1).at2
    go_wp2_with fail
    refine (HS.out _).mono ?_
    rintro e w3 ⟨rfl, hb⟩
    obtain ⟨HL906, HB906⟩ := cameLB HL905 HB905 hb
    clear hb
    clear HL905 HB905 fx2_0_905 fx2_1_905
    obtain ⟨fx1_0_906, fx1_1_906⟩ := (HB906.out.2.1).at2
    obtain ⟨fx2_0_906, fx2_1_906⟩ := (HB906.out.1).at2
    go_wp2_with fail
    refine (HLo.out _).mono ?_
    rintro e w4 ⟨rfl, hb⟩
    obtain ⟨HL907, HB907⟩ := cameLB HL906 HB906 hb
    clear hb
    clear HL906 HB906 fx1_0_906 fx1_1_906 fx2_0_906 fx2_1_906
    have HO2 := Lib.hid (show w2.heap.size < w4.heap.size from by have := (HB907.out.1).lt; first | omega | (simp at this; omega))
    obtain ⟨HL908, HB908⟩ := growLB HL907 HB907 (w4.heap.size) #[.bool nr, .string sr, .bool mr, .string tr] 25
    clear HL907 HB907
    obtain ⟨fx3_0_908, fx3_1_908, fx3_2_908, fx3_3_908⟩ := (HB908.out.1).at4
    go_wp2_with fail
    refine (HPr.out _).mono ?_
    rintro e w5 ⟨rfl, hb⟩
    obtain ⟨HL909, HB909⟩ := cameLB HL908 HB908 hb
    clear hb
    clear HL908 HB908 fx3_0_908 fx3_1_908 fx3_2_908 fx3_3_908
    obtain ⟨fx3_0_909, fx3_1_909, fx3_2_909, fx3_3_909⟩ := (HB909.out.1).at4
    obtain ⟨fx0_0_909, fx0_1_909, fx0_2_909, fx0_3_909⟩ := (HB909.out.2.2.2.1).at4
    obtain ⟨fz0_0_909, fz0_1_909, fz0_2_909, fz0_3_909⟩ := (HB909.out.2.2.2.1).z4
    obtain ⟨HL910, HB910⟩ := keptLB (c := w.heap.size) [.bool nr, .string sr, .bool mr, .string tr] 0 3 HL909 HB909 (by have := HOR.out; have := HO0.out; have := HO1.out; have := HO2.out; omega) (by simp only [Bs.ap, Bs.ap0, List.length_cons, List.length_nil, and_true, true_and]; have := HOR.out; have := HO0.out; have := HO1.out; have := HO2.out; omega)
    simp only [setCs, setL, Bs.put, List.set_cons_succ, List.set_cons_zero, Nat.zero_add, Nat.reduceAdd] at HL910 HB910
    replace HL910 := Lib.hid HL910
    replace HB910 := Lib.hid HB910
    clear HL909 HB909
    obtain ⟨fx0_0_910, fx0_1_910, fx0_2_910, fx0_3_910⟩ := (HB910.out.2.2.2.1).at4
    go_wp2
    refine bodyPost_ret (v := .tuple #[.agg #[.bool nr, .string sr, .bool mr, .string tr], .int .i64 0]) (by simp [results, Tryz.results34, go_sem, fx0_0_910, fx0_1_910, fx0_2_910, fx0_3_910]) rfl ?_
    exact ⟨rfl, HL910.out⟩
   ·have hcI : (((at' s0 k).toNat : Int) == 47) = false := beq_eq_false_iff_ne.2 fun h => hc (UInt8.toNat_inj.1 (by have h2 : (47 : UInt8).toNat = 47 := rfl; omega))
    go_wp2
    go_roundg (s0.size - k)
    case rel => exact ⟨k + 1, rfl, rfl, by go_num, by omega, by have := HG.out; omega, fun j hj => by rcases Nat.lt_succ_iff_lt_or_eq.1 hj with h | h; exact HNO.out j h; subst h; exact hc, HL900.out, HB900.out.1⟩
    case measure => exact HG.out
theorem rParseQ_no (s0 : ByteArray) (hs : s0.size ≤ 65536) {nx ny nr mr : Bool} {sx sy sr tr st_ : ByteArray} {c1 : Int} (h1 : decide (c1 ≤ 0) = false) (h2 : (st_.toList == s0.toList) = false) (w : World)
  (HX : GivesV 63 #[.string (cutN s0)] (.tuple #[.agg #[.bool nx, .string sx], .int .i64 0]))
  (HY : GivesV 63 #[.string (cutD s0)] (.tuple #[.agg #[.bool ny, .string sy], .int .i64 0]))
  (HS : GivesV 42 #[.agg #[.bool ny, .string sy]] (.int .i64 c1))
  (HLo : GivesV 43 #[.agg #[.bool nx, .string sx], .agg #[.bool ny, .string sy]] (.agg #[.bool nr, .string sr, .bool mr, .string tr]))
  (HPr : GivesV 36 #[.agg #[.bool nr, .string sr, .bool mr, .string tr]] (.string st_))
  : Calls Tryz.prog 34 #[.string s0] w fun e w' => e = .returned (.tuple #[.agg #[.bool false, .string ⟨#[]⟩, .bool false, .string ⟨#[]⟩], .int .i64 3]) ∧ Below w.heap.size w w' := by
 replace HX := Lib.hid HX
 replace HY := Lib.hid HY
 replace HS := Lib.hid HS
 replace HLo := Lib.hid HLo
 replace HPr := Lib.hid HPr
 have hlo : decide ((65536 : Int) < s0.size) = false := decide_eq_false (by omega)
 have HSZ := Lib.hid hs
 clear hs
 have HL0 := Lib.hid ((Below.refl w.heap.size w).alloc (Nat.le_refl _) (.cells #[.bool false, .string ⟨#[]⟩, .bool false, .string ⟨#[]⟩] 25))
 have HB0 := Lib.hid (BC.new w w.heap.size #[.bool false, .string ⟨#[]⟩, .bool false, .string ⟨#[]⟩] 25 rfl)
 go_enter Tryz.func34, Tryz.ntmps34
 go_wp2_with fail
 go_loopg [4, 5, 6] (s0.size + 1) (fun gg v4 v5 v6 wr => ∃ k : Nat, v4 = .string s0 ∧ v5 = .string ⟨#[49]⟩ ∧ v6 = .int .i64 k ∧ k ≤ s0.size ∧ s0.size - k < gg ∧ noS s0 k ∧ Below w.heap.size w wr ∧ BC wr w.heap.size [.bool false, .string ⟨#[]⟩, .bool false, .string ⟨#[]⟩])
 case atStart => exact ⟨0, rfl, rfl, rfl, Nat.zero_le _, by omega, fun j hj => by omega, HL0.out, HB0.out⟩
 case round =>
  obtain ⟨k, rfl, rfl, rfl, hk, hg, hno, hL, hB⟩ := hrel
  have HNO := Lib.hid hno
  have HG := Lib.hid hg
  have HL900 := Lib.hid hL
  have HB900 := Lib.hid (show Bs [(w.heap.size, [.bool false, .string ⟨#[]⟩, .bool false, .string ⟨#[]⟩])] wr from ⟨hB, trivial⟩)
  have HOR := Lib.hid (show w.heap.size ≤ w.heap.size from Nat.le_refl _)
  clear hno hg hL hB HL0 HB0
  by_cases hks : k = s0.size
  ·subst hks
   have hkB : decide ((s0.size : Int) < s0.size) = false := decide_eq_false (by omega)
   have hF := cut_none HNO.out
   obtain ⟨sN, hN⟩ : ∃ x, s0 = x := ⟨_, rfl⟩
   have e1 : cutN s0 = s0 := by unfold cutN; rw [hF]; rfl
   have e2 : cutD s0 = ⟨#[49]⟩ := by unfold cutD; rw [hF]; rfl
   rw [e1] at HX
   rw [e2] at HY
   clear e1 e2 hF hN sN
   go_wp2_with fail
   refine (HX.out _).mono ?_
   rintro e w1 ⟨rfl, hb⟩
   obtain ⟨HL901, HB901⟩ := cameLB HL900 HB900 hb
   clear hb
   clear HL900 HB900
   have HO0 := Lib.hid (show w.heap.size < w1.heap.size from by have := (HB901.out.1).lt; first | omega | (simp at this; omega))
   obtain ⟨HL902, HB902⟩ := growLB HL901 HB901 (w1.heap.size) #[.bool nx, .string sx] 23
   clear HL901 HB901
   go_wp2_with fail
   refine (HY.out _).mono ?_
   rintro e w2 ⟨rfl, hb⟩
   obtain ⟨HL903, HB903⟩ := cameLB HL902 HB902 hb
   clear hb
   clear HL902 HB902
   have HO1 := Lib.hid (show w1.heap.size < w2.heap.size from by have := (HB903.out.1).lt; first | omega | (simp at this; omega))
   obtain ⟨HL904, HB904⟩ := growLB HL903 HB903 (w2.heap.size) #[.bool ny, .string sy] 23
   clear HL903 HB903
   obtain ⟨fx2_0_904, fx2_1_904⟩ := (HB904.out.1).at2
   go_wp2_with fail
   refine (HS.out _).mono ?_
   rintro e w3 ⟨rfl, hb⟩
   obtain ⟨HL905, HB905⟩ := cameLB HL904 HB904 hb
   clear hb
   clear HL904 HB904 fx2_0_904 fx2_1_904
   obtain ⟨fx1_0_905, fx1_1_905⟩ := (HB905.out.2.1).at2
   obtain ⟨fx2_0_905, fx2_1_905⟩ := (HB905.out.1).at2
   go_wp2_with fail
   refine (HLo.out _).mono ?_
   rintro e w4 ⟨rfl, hb⟩
   obtain ⟨HL906, HB906⟩ := cameLB HL905 HB905 hb
   clear hb
   clear HL905 HB905 fx1_0_905 fx1_1_905 fx2_0_905 fx2_1_905
   have HO2 := Lib.hid (show w2.heap.size < w4.heap.size from by have := (HB906.out.1).lt; first | omega | (simp at this; omega))
   obtain ⟨HL907, HB907⟩ := growLB HL906 HB906 (w4.heap.size) #[.bool nr, .string sr, .bool mr, .string tr] 25
   clear HL906 HB906
   obtain ⟨fx3_0_907, fx3_1_907, fx3_2_907, fx3_3_907⟩ := (HB907.out.1).at4
   go_wp2_with fail
   refine (HPr.out _).mono ?_
   rintro e w5 ⟨rfl, hb⟩
   obtain ⟨HL908, HB908⟩ := cameLB HL907 HB907 hb
   clear hb
   clear HL907 HB907 fx3_0_907 fx3_1_907 fx3_2_907 fx3_3_907
   obtain ⟨fx0_0_908, fx0_1_908, fx0_2_908, fx0_3_908⟩ := (HB908.out.2.2.2.1).at4
   obtain ⟨fz0_0_908, fz0_1_908, fz0_2_908, fz0_3_908⟩ := (HB908.out.2.2.2.1).z4
   obtain ⟨HL909, HB909⟩ := keptLB (c := w.heap.size) [.bool false, .string ⟨#[]⟩, .bool false, .string ⟨#[]⟩] 0 3 HL908 HB908 (by have := HOR.out; have := HO0.out; have := HO1.out; have := HO2.out; omega) (by simp only [Bs.ap, Bs.ap0, List.length_cons, List.length_nil, and_true, true_and]; have := HOR.out; have := HO0.out; have := HO1.out; have := HO2.out; omega)
   simp only [setCs, setL, Bs.put, List.set_cons_succ, List.set_cons_zero, Nat.zero_add, Nat.reduceAdd] at HL909 HB909
   replace HL909 := Lib.hid HL909
   replace HB909 := Lib.hid HB909
   clear HL908 HB908
   obtain ⟨fx0_0_909, fx0_1_909, fx0_2_909, fx0_3_909⟩ := (HB909.out.2.2.2.1).at4
   go_wp2
   refine bodyPost_ret (v := .tuple #[.agg #[.bool false, .string ⟨#[]⟩, .bool false, .string ⟨#[]⟩], .int .i64 3]) (by simp [results, Tryz.results34, go_sem, fx0_0_909, fx0_1_909, fx0_2_909, fx0_3_909]) rfl ?_
   exact ⟨rfl, HL909.out⟩
  ·have hkl : k < s0.size := by omega
   have hs := HSZ.out
   have hkI : (k : Int) < s0.size := by omega
   have hk0 : (0 : Int) ≤ k := by omega
   have hat : s0[k]'hkl = at' s0 k := at'_eq hkl
   by_cases hc : at' s0 k = 47
   ·obtain ⟨hF, e1, e2⟩ := cut_some hkl HNO.out hc
    have hcI : ((at' s0 k).toNat : Int) = 47 := by rw [hc]; rfl
    have f1 : cutN s0 = s0.extract 0 k := by unfold cutN; rw [hF, e1]; rfl
    have f2 : cutD s0 = s0.extract (k + 1) s0.size := by unfold cutD; rw [hF, e2]; rfl
    have hk1 : (k : Int) ≤ s0.size := by omega
    have hk2 : (k : Int) + 1 ≤ s0.size := by omega
    rw [f1] at HX
    rw [f2] at HY
    obtain ⟨sN, hN⟩ : ∃ x, s0.extract 0 k = x := ⟨_, rfl⟩
    obtain ⟨sD, hD⟩ : ∃ x, s0.extract (k + 1) s0.size = x := ⟨_, rfl⟩
    rw [hN] at HX
    rw [hD] at HY
    clear hF e1 e2 f1 f2 hc hks
    go_wp2_with fail
    go_quiet (fail)
    generalize hq : wr.drewN _ = wq
    have HL901 := Lib.hid (show Below w.heap.size w wq by rw [← hq]; exact bstep HL900.out ⟨rfl, rfl, rfl, Nat.le_refl _, fun _ _ => rfl⟩)
    have HB901 := Lib.hid (show Bs [(w.heap.size, [.bool false, .string ⟨#[]⟩, .bool false, .string ⟨#[]⟩])] wq by rw [← hq]; exact HB900.out.bel ⟨rfl, rfl, rfl, Nat.le_refl _, fun _ _ => rfl⟩)
    clear HL900 HB900 hq hat hcI hk0 hkI hk1 hk2 hN hD
    go_wp2_with fail
    refine (HX.out _).mono ?_
    rintro e w1 ⟨rfl, hb⟩
    obtain ⟨HL902, HB902⟩ := cameLB HL901 HB901 hb
    clear hb
    clear HL901 HB901
    have HO0 := Lib.hid (show w.heap.size < w1.heap.size from by have := (HB902.out.1).lt; first | omega | (simp at this; omega))
    obtain ⟨HL903, HB903⟩ := growLB HL902 HB902 (w1.heap.size) #[.bool nx, .string sx] 23
    clear HL902 HB902
    go_wp2_with fail
    refine (HY.out _).mono ?_
    rintro e w2 ⟨rfl, hb⟩
    obtain ⟨HL904, HB904⟩ := cameLB HL903 HB903 hb
    clear hb
    clear HL903 HB903
    have HO1 := Lib.hid (show w1.heap.size < w2.heap.size from by have := (HB904.out.1).lt; first | omega | (simp at this; omega))
    obtain ⟨HL905, HB905⟩ := growLB HL904 HB904 (w2.heap.size) #[.bool ny, .string sy] 23
    clear HL904 HB904
    obtain ⟨fx2_0_905, fx2_1_905⟩ := (HB905.out.1).at2
    go_wp2_with fail
    refine (HS.out _).mono ?_
    rintro e w3 ⟨rfl, hb⟩
    obtain ⟨HL906, HB906⟩ := cameLB HL905 HB905 hb
    clear hb
    clear HL905 HB905 fx2_0_905 fx2_1_905
    obtain ⟨fx1_0_906, fx1_1_906⟩ := (HB906.out.2.1).at2
    obtain ⟨fx2_0_906, fx2_1_906⟩ := (HB906.out.1).at2
    go_wp2_with fail
    refine (HLo.out _).mono ?_
    rintro e w4 ⟨rfl, hb⟩
    obtain ⟨HL907, HB907⟩ := cameLB HL906 HB906 hb
    clear hb
    clear HL906 HB906 fx1_0_906 fx1_1_906 fx2_0_906 fx2_1_906
    have HO2 := Lib.hid (show w2.heap.size < w4.heap.size from by have := (HB907.out.1).lt; first | omega | (simp at this; omega))
    obtain ⟨HL908, HB908⟩ := growLB HL907 HB907 (w4.heap.size) #[.bool nr, .string sr, .bool mr, .string tr] 25
    clear HL907 HB907
    obtain ⟨fx3_0_908, fx3_1_908, fx3_2_908, fx3_3_908⟩ := (HB908.out.1).at4
    go_wp2_with fail
    refine (HPr.out _).mono ?_
    rintro e w5 ⟨rfl, hb⟩
    obtain ⟨HL909, HB909⟩ := cameLB HL908 HB908 hb
    clear hb
    clear HL908 HB908 fx3_0_908 fx3_1_908 fx3_2_908 fx3_3_908
    obtain ⟨fx0_0_909, fx0_1_909, fx0_2_909, fx0_3_909⟩ := (HB909.out.2.2.2.1).at4
    obtain ⟨fz0_0_909, fz0_1_909, fz0_2_909, fz0_3_909⟩ := (HB909.out.2.2.2.1).z4
    obtain ⟨HL910, HB910⟩ := keptLB (c := w.heap.size) [.bool false, .string ⟨#[]⟩, .bool false, .string ⟨#[]⟩] 0 3 HL909 HB909 (by have := HOR.out; have := HO0.out; have := HO1.out; have := HO2.out; omega) (by simp only [Bs.ap, Bs.ap0, List.length_cons, List.length_nil, and_true, true_and]; have := HOR.out; have := HO0.out; have := HO1.out; have := HO2.out; omega)
    simp only [setCs, setL, Bs.put, List.set_cons_succ, List.set_cons_zero, Nat.zero_add, Nat.reduceAdd] at HL910 HB910
    replace HL910 := Lib.hid HL910
    replace HB910 := Lib.hid HB910
    clear HL909 HB909
    obtain ⟨fx0_0_910, fx0_1_910, fx0_2_910, fx0_3_910⟩ := (HB910.out.2.2.2.1).at4
    go_wp2
    refine bodyPost_ret (v := .tuple #[.agg #[.bool false, .string ⟨#[]⟩, .bool false, .string ⟨#[]⟩], .int .i64 3]) (by simp [results, Tryz.results34, go_sem, fx0_0_910, fx0_1_910, fx0_2_910, fx0_3_910]) rfl ?_
    exact ⟨rfl, HL910.out⟩
   ·have hcI : (((at' s0 k).toNat : Int) == 47) = false := beq_eq_false_iff_ne.2 fun h => hc (UInt8.toNat_inj.1 (by have h2 : (47 : UInt8).toNat = 47 := rfl; omega))
    go_wp2
    go_roundg (s0.size - k)
    case rel => exact ⟨k + 1, rfl, rfl, by go_num, by omega, by have := HG.out; omega, fun j hj => by rcases Nat.lt_succ_iff_lt_or_eq.1 hj with h | h; exact HNO.out j h; subst h; exact hc, HL900.out, HB900.out.1⟩
    case measure => exact HG.out
end Go.Proofs.Gv
