/- grooveref39: none, choice. -/
import Derived.Test.YtglgiofjgfbfgaaMsuP
import Derived.Test.YtglgiofjgfbfgaaLplP
set_option linter.unusedSimpArgs false
set_option linter.unusedVariables false
namespace Go.Proofs.Gv
open Go Go.RowKit Go.Maps

set_option maxRecDepth 100000 in
set_option maxHeartbeats 1600000 in
theorem rnone39_any (w : World) : Calls Try.prog 99 #[] w fun e w' => e = .returned (oV none) ∧ Below w.heap.size w w' := by
  have hb1 : Below w.heap.size w (w.alloc (.cells #[.bool false, .string ⟨#[]⟩] 29)) := (Below.refl _ _).alloc (Nat.le_refl _) _
  have bR := BC.new w w.heap.size #[.bool false, .string ⟨#[]⟩] 29 rfl
  obtain ⟨p, hp⟩ : ∃ p, w.heap.size = p := ⟨_, rfl⟩
  obtain ⟨X, hX⟩ : ∃ X, w.alloc (.cells #[.bool false, .string ⟨#[]⟩] 29) = X := ⟨_, rfl⟩
  rw [hX] at hb1 bR
  rw [hp] at bR
  have HBX := Lib.hid hb1
  have HBR := Lib.hid bR
  have HOF := Lib.hid (show Calls Try.prog 122 #[.int .i64 (-1)] X fun e w' => e = .returned (.agg #[.bool (sgn (-1)), .string (mg (-1 : Int).natAbs)]) ∧ Below X.heap.size X w' from rOf_any (-1) X (by omega) (by omega))
  clear hb1 bR
  go_enter Try.func99, Try.ntmps99
  go_wp2_with fail
  refine HOF.out.mono ?_
  rintro e w1 ⟨rfl, hb⟩
  have b1 := HBR.out.below hb
  have HB := Lib.hid (bstep HBX.out hb)
  have t0 := b1.at 0 _ rfl
  have t1 := b1.at 1 _ rfl
  have z0 := b1.z 0 (by simp)
  have z1 := b1.z 1 (by simp)
  have e1 : sgn (-1) = true := by decide
  have e2 : (-1 : Int).natAbs = 1 := rfl
  rw [e1, e2]
  have bS := b1.set2 0 1 (.bool true) (.string (mg 1)) (by simp) (by simp)
  have s0 := bS.at 0 _ rfl
  have s1 := bS.at 1 _ rfl
  have HBY := Lib.hid ((HB.out.setCell (p := ⟨p, 0, none⟩) (by show w.heap.size ≤ p; omega) (.bool true)).setCell (p := ⟨p, 1, none⟩) (by show w.heap.size ≤ p; omega) (.string (mg 1)))
  clear hb b1 bS e1 e2
  go_wp2
  refine bodyPost_ret (v := .agg #[.bool true, .string (mg 1)]) (by simp [results, Try.results99, go_sem, s0, s1]) rfl ?_
  exact ⟨rfl, HBY.out⟩
set_option maxRecDepth 100000 in
set_option maxHeartbeats 4000000 in
theorem rchoice_any (n s g k i p r N : Nat) (O : List Nat) (w : World) (hn : n ≤ 12) (hk : k ≤ n) (hp : p ≤ k) (hi : i + p ≤ n) (hN : N ≤ 1000)
    (hg : RowT w g O n r) (hs : SumT w s O n) (hO : O.sum < 2 ^ N) (hT : ∀ k i x, tb O n r k i = some x → x < 2 ^ N) :
    Calls Try.prog 64 #[.slice (some ⟨s, 0, none⟩) (n + 1) (n + 1), .slice (some ⟨g, 0, none⟩) ((n + 1) * (n + 1)) ((n + 1) * (n + 1)), .int .i64 n, .int .i64 k, .int .i64 i, .int .i64 p] w fun e w' => e = .returned (oV (plc O n r k i p)) ∧ Below w.heap.size w w' := by
  obtain ⟨n1, hn1⟩ : ∃ x, n + 1 = x := ⟨_, rfl⟩
  obtain ⟨NN, hNN⟩ : ∃ x, (n + 1) * (n + 1) = x := ⟨_, rfl⟩
  obtain ⟨q, hq⟩ : ∃ x, k - p = x := ⟨_, rfl⟩
  obtain ⟨q2, hq2⟩ : ∃ x, 2 * q = x := ⟨_, rfl⟩
  obtain ⟨mm, hmm⟩ : ∃ x, min q2 n = x := ⟨_, rfl⟩
  obtain ⟨ip, hip⟩ : ∃ x, i + p = x := ⟨_, rfl⟩
  have hqI : (k : Int) - (p : Int) = (q : Int) := by omega
  have hq2I : 2 * (q : Int) = (q2 : Int) := by omega
  have hmmI : min (q2 : Int) (n : Int) = (mm : Int) := by omega
  have hipI : (i : Int) + (p : Int) = (ip : Int) := by omega
  have hq20 : q ≤ 12 := by omega
  have hq21 : q2 ≤ 24 := by omega
  have hip12 : ip ≤ 12 := by omega
  have hipn : (ip : Int) < (n1 : Int) := by omega
  have HPL := Lib.hid (show plc O n r k i p = (tb O n r mm ip).map ((O.drop ip).sum + ·) from by unfold plc; rw [hip, ← hmm, ← hq2, ← hq])
  obtain ⟨md, hmd⟩ : ∃ x, mm * (n + 1) = x := ⟨_, rfl⟩
  obtain ⟨mi, hmi⟩ : ∃ x, md + i = x := ⟨_, rfl⟩
  obtain ⟨mp, hmp⟩ : ∃ x, mi + p = x := ⟨_, rfl⟩
  have hn1I : (n : Int) + 1 = (n1 : Int) := by omega
  have hmdI : (mm : Int) * (n1 : Int) = (md : Int) := by rw [← hmd, ← hn1]; simp
  have hmiI : (md : Int) + (i : Int) = (mi : Int) := by omega
  have hmpI : (mi : Int) + (p : Int) = (mp : Int) := by omega
  have hmm12 : mm ≤ 12 := by omega
  have hmd156 : md ≤ 156 := by rw [← hmd]; exact Nat.mul_le_mul hmm12 (show n + 1 ≤ 13 by omega)
  have hlt := plc_le (n := n) (k := mm) (i := ip) (by omega) (by omega)
  have hmpN : (mp : Int) < (NN : Int) := by rw [← hNN]; rw [hmd] at hlt; omega
  have HRG := Lib.hid (fun W (h : Below w.heap.size w W) => by
    have h2 := (hg.below h) mm ip (by omega) (by omega)
    rw [hmd, show md + ip = mp by omega] at h2
    exact h2)
  have HSM := Lib.hid (fun W (h : Below w.heap.size w W) => (hs.below h) ip (by omega))
  have hsl : (O.drop ip).sum < 2 ^ N := Nat.lt_of_le_of_lt (by
    have := List.take_append_drop ip O
    have h2 := congrArg List.sum this
    rw [List.sum_append] at h2
    omega) hO
  have HTX := Lib.hid (hT mm ip)
  obtain ⟨SS, hSS⟩ : ∃ x, (O.drop ip).sum = x := ⟨_, rfl⟩
  obtain ⟨V, hV⟩ : ∃ x, tb O n r mm ip = x := ⟨_, rfl⟩
  rw [hV] at HRG HTX HPL
  rw [hSS] at HSM hsl HPL
  have HSL := Lib.hid hsl
  rw [hNN, hn1]
  have bR := BC.new w w.heap.size #[.bool false, .string ⟨#[]⟩] 29 rfl
  have hb2 : Below w.heap.size w (w.alloc (.cells #[.bool false, .string ⟨#[]⟩] 29)) := (Below.refl _ _).alloc (Nat.le_refl _) _
  obtain ⟨P, hP⟩ : ∃ P, w.heap.size = P := ⟨_, rfl⟩
  have HP := Lib.hid hP
  have HB2 := Lib.hid hb2
  obtain ⟨w3, hw3⟩ : ∃ X, w.alloc (.cells #[.bool false, .string ⟨#[]⟩] 29) = X := ⟨_, rfl⟩
  rw [hw3] at bR HB2
  rw [hP] at bR
  have HBR := Lib.hid bR
  obtain ⟨c0, c1⟩ := HRG.out w3 HB2.out
  clear hn1 hq hq2 hmm hip hg hs hO hT hSS hV bR hb2 hsl hNN hmd hmi hmp hlt
  have hb3 : Below w3.heap.size w3 w3 := Below.refl _ _
  cases V with
  | none =>
    unfold oB at c0
    unfold oS at c1
    simp only at c0 c1
    go_enter Try.func64, Try.ntmps64
    have h2 : Below w3.heap.size w3 (w3.alloc (.cells #[.bool true, .string (mg 1)] 29)) := (Below.refl _ _).alloc (Nat.le_refl _) _
    have hst := hb3.trans (h2.mono hb3.size)
    have HBR3 := Lib.hid (HBR.out.below hst)
    have HB3 := Lib.hid (bstep HB2.out hst)
    have bT := Lib.hid (BC.new w3 w3.heap.size #[.bool true, .string (mg 1)] 29 rfl)
    obtain ⟨Q, hQ⟩ : ∃ q, w3.heap.size = q := ⟨_, rfl⟩
    rw [hQ] at bT
    obtain ⟨X3, hX3⟩ : ∃ X, w3.alloc (.cells #[.bool true, .string (mg 1)] 29) = X := ⟨_, rfl⟩
    rw [hX3] at HBR3 HB3 bT
    have t0 := bT.out.at 0 _ rfl
    have HNO := Lib.hid (rnone39_any X3)
    clear hb3 h2 hst
    go_wp2_with fail
    refine HNO.out.mono ?_
    rintro e w4 ⟨rfl, hb4⟩
    have bR4 := HBR3.out.below hb4
    have HB4 := Lib.hid (bstep HB3.out hb4)
    have z0 := bR4.z 0 (by simp)
    have z1 := bR4.z 1 (by simp)
    have y0 := bR4.at 0 _ rfl
    have y1 := bR4.at 1 _ rfl
    have bS := bR4.set2 0 1 (.bool true) (.string (mg 1)) (by simp) (by simp)
    have s0 := bS.at 0 _ rfl
    have s1 := bS.at 1 _ rfl
    have HBF := Lib.hid ((HB4.out.setCell (p := ⟨P, 0, none⟩) (by have := HP.out; show w.heap.size ≤ P; omega) (.bool true)).setCell (p := ⟨P, 1, none⟩) (by have := HP.out; show w.heap.size ≤ P; omega) (.string (mg 1)))
    clear hb4 bR4 bS t0
    unfold oV oB oS
    go_wp2
    refine bodyPost_ret (v := .agg #[.bool true, .string (mg 1)]) (by simp [results, Try.results64, go_sem, s0, s1]) rfl ?_
    rw [HPL.out]
    exact ⟨rfl, HBF.out⟩
  | some x =>
    unfold oB at c0
    unfold oS at c1
    simp only at c0 c1
    have hx := HTX.out x rfl
    go_enter Try.func64, Try.ntmps64
    have h2 : Below w3.heap.size w3 (w3.alloc (.cells #[.bool false, .string (mg x)] 29)) := (Below.refl _ _).alloc (Nat.le_refl _) _
    have hst := hb3.trans (h2.mono hb3.size)
    have HBR3 := Lib.hid (HBR.out.below hst)
    have HB3 := Lib.hid (bstep HB2.out hst)
    have bT := Lib.hid (BC.new w3 w3.heap.size #[.bool false, .string (mg x)] 29 rfl)
    obtain ⟨Q, hQ⟩ : ∃ q, w3.heap.size = q := ⟨_, rfl⟩
    rw [hQ] at bT
    obtain ⟨X3, hX3⟩ : ∃ X, w3.alloc (.cells #[.bool false, .string (mg x)] 29) = X := ⟨_, rfl⟩
    rw [hX3] at HBR3 HB3 bT
    have t0 := bT.out.at 0 _ rfl
    obtain ⟨e0, e1⟩ := HSM.out X3 HB3.out
    have HAD := Lib.hid (fun Y => rAddN (x := SS) (d := x) N N HSL.out hx (by omega) (by omega) Y)
    clear hb3 h2 hst hx
    go_wp2_with fail
    refine wp_region_front 8 zvI (by kernel_rfl) shI (by kernel_rfl) (by kernel_rfl) (zvI_alloc _ (by kernel_rfl)) (shI_store _ (by kernel_rfl)) ?_
    intro mk BW hm1 hm2 hBW
    haveI := clm_some mk BW
    have fq1 := fun u : Clm mk BW => u.cellC hm1 hBW e0
    have fq2 := fun u : Clm mk BW => u.cellC hm1 hBW e1
    have fq3 := fun u : Clm mk BW => u.cellC hm1 hBW (bT.out.at 0 _ rfl)
    have fq4 := fun u : Clm mk BW => u.cellC hm1 hBW (bT.out.at 1 _ rfl)
    simp only [frontOf, unmade, List.take_succ_cons, List.take_zero, List.map_cons, List.map_nil]
    iterate 7 (go_big_quiet_step (fail))
    go_big_quiet_step ((go_at_call 98; exact quiet_clm hm2 HAD.out _))
    refine wpQuiet_nil ?_
    refine ⟨List.forall_mem_nil _, ?_⟩
    intro γ w7 hB7 hF
    clear hF hBW this hm1 hm2 fq1 fq2 fq3 fq4
    clear BW mk
    simp only [madesFrom, Facts, patch, List.take_succ_cons, List.take_zero, List.drop_succ_cons, List.drop_zero]
    clear γ
    have bR4 := HBR3.out.below hB7
    have HB4 := Lib.hid (bstep HB3.out hB7)
    have z0 := bR4.z 0 (by simp)
    have z1 := bR4.z 1 (by simp)
    have y0 := bR4.at 0 _ rfl
    have y1 := bR4.at 1 _ rfl
    have bS := bR4.set2 0 1 (.bool false) (.string (mg (SS + x))) (by simp) (by simp)
    have s0 := bS.at 0 _ rfl
    have s1 := bS.at 1 _ rfl
    have HBF := Lib.hid ((HB4.out.setCell (p := ⟨P, 0, none⟩) (by have := HP.out; show w.heap.size ≤ P; omega) (.bool false)).setCell (p := ⟨P, 1, none⟩) (by have := HP.out; show w.heap.size ≤ P; omega) (.string (mg (SS + x))))
    clear hB7 bR4 bS t0 e0 e1
    go_wp2
    refine bodyPost_ret (v := .agg #[.bool false, .string (mg (SS + x))]) (by simp [results, Try.results64, go_sem, s0, s1]) rfl ?_
    rw [HPL.out]
    exact ⟨rfl, HBF.out⟩
end Go.Proofs.Gv
