/- limited: the cost of p weights at a depth. -/
import Derived.Test.YtglgiofjgfbfgaaLtabP
set_option linter.unusedSimpArgs false
set_option linter.unusedVariables false
namespace Go.Proofs.Gv
open Go Go.RowKit Go.Maps

theorem Clm.cellC {m : Nat} {W B : World} (hm : W.heap.size ≤ m) (hB : Below W.heap.size W B) (u : Clm m B) {p : Addr} {v : Value} (h : W.cell? p = some v) : u.x.cell? p = some v :=
  ((u.old hm hB).cell (World.block_lt_of_cell? W _ h)).trans h

set_option maxRecDepth 100000 in
set_option maxHeartbeats 4000000 in
theorem place39_any (n m s t g j k i p r N : Nat) (O : List Nat) (w : World) (hn : n ≤ 12) (hm : m ≤ 64) (hj : j < m) (hk : k ≤ n) (hp : p ≤ k) (hi : i + p ≤ n) (hN : N ≤ 1000)
    (hr : w.cell? ⟨t, j + 1, none⟩ = some (.slice (some ⟨g, 0, none⟩) ((n + 1) * (n + 1)) ((n + 1) * (n + 1)))) (hg : RowT w g O n r) (hs : SumT w s O n) (hO : O.sum < 2 ^ N) (hT : ∀ k i x, tb O n r k i = some x → x < 2 ^ N) :
    Calls Try.prog 50 #[plV n m s t, .int .i64 j, .int .i64 k, .int .i64 i, .int .i64 p] w fun e w' => e = .returned (oV (plc O n r k i p)) ∧ Below w.heap.size w w' := by
  obtain ⟨n1, hn1⟩ : ∃ x, n + 1 = x := ⟨_, rfl⟩
  obtain ⟨m1, hm1⟩ : ∃ x, m + 1 = x := ⟨_, rfl⟩
  obtain ⟨j1, hj1⟩ : ∃ x, j + 1 = x := ⟨_, rfl⟩
  obtain ⟨q, hq⟩ : ∃ x, k - p = x := ⟨_, rfl⟩
  obtain ⟨q2, hq2⟩ : ∃ x, 2 * q = x := ⟨_, rfl⟩
  obtain ⟨mm, hmm⟩ : ∃ x, min q2 n = x := ⟨_, rfl⟩
  obtain ⟨ip, hip⟩ : ∃ x, i + p = x := ⟨_, rfl⟩
  have hjI : (j : Int) + 1 = (j1 : Int) := by omega
  have hqI : (k : Int) - (p : Int) = (q : Int) := by omega
  have hq2I : 2 * (q : Int) = (q2 : Int) := by omega
  have hmmI : min (q2 : Int) (n : Int) = (mm : Int) := by omega
  have hipI : (i : Int) + (p : Int) = (ip : Int) := by omega
  have hq20 : q ≤ 12 := by omega
  have hq21 : q2 ≤ 24 := by omega
  have hip12 : ip ≤ 12 := by omega
  have hj64 : j ≤ 64 := by omega
  have hipn : (ip : Int) < (n1 : Int) := by omega
  have HPL := Lib.hid (show plc O n r k i p = (tb O n r mm ip).map ((O.drop ip).sum + ·) from by unfold plc; rw [hip, ← hmm, ← hq2, ← hq])
  have HAT := Lib.hid (fun W (h : Below w.heap.size w W) => at39_any n m s t g j1 mm ip r O W hn hm (by omega) (by omega) (by omega) (by rw [← hj1]; exact cellBelow hr h) (hg.below h))
  have HSM := Lib.hid (fun W (h : Below w.heap.size w W) => (hs.below h) ip (by omega))
  have hsl : (O.drop ip).sum < 2 ^ N := Nat.lt_of_le_of_lt (by
    have := List.take_append_drop ip O
    have h2 := congrArg List.sum this
    rw [List.sum_append] at h2
    omega) hO
  have HTX := Lib.hid (hT mm ip)
  obtain ⟨SS, hSS⟩ : ∃ x, (O.drop ip).sum = x := ⟨_, rfl⟩
  obtain ⟨V, hV⟩ : ∃ x, tb O n r mm ip = x := ⟨_, rfl⟩
  rw [hV] at HAT HTX HPL
  rw [hSS] at HSM hsl HPL
  have HSL := Lib.hid hsl
  unfold plV at HAT ⊢
  rw [hn1, hm1] at HAT ⊢
  have bP := BC.new w w.heap.size #[.int .i64 (n : Int), .slice (some ⟨s, 0, none⟩) n1 n1, .slice (some ⟨t, 0, none⟩) m1 m1] 78 rfl
  have hb1 : Below w.heap.size w (w.alloc (.cells #[.int .i64 (n : Int), .slice (some ⟨s, 0, none⟩) n1 n1, .slice (some ⟨t, 0, none⟩) m1 m1] 78)) := (Below.refl _ _).alloc (Nat.le_refl _) _
  obtain ⟨P, hP⟩ : ∃ P, w.heap.size = P := ⟨_, rfl⟩
  have HP := Lib.hid hP
  obtain ⟨X1, hX1⟩ : ∃ X, w.alloc (.cells #[.int .i64 (n : Int), .slice (some ⟨s, 0, none⟩) n1 n1, .slice (some ⟨t, 0, none⟩) m1 m1] 78) = X := ⟨_, rfl⟩
  rw [hX1] at bP hb1
  have hs1 : X1.heap.size = P + 1 := by rw [← hX1, ← hP]; simp
  have bR := BC.new X1 (P + 1) #[.bool false, .string ⟨#[]⟩] 29 hs1.symm
  have hb2 : Below X1.heap.size X1 (X1.alloc (.cells #[.bool false, .string ⟨#[]⟩] 29)) := (Below.refl _ _).alloc (Nat.le_refl _) _
  have bP2 := bP.below hb2
  rw [hP] at bP2
  have HB2 := Lib.hid (bstep hb1 hb2)
  obtain ⟨X2, hX2⟩ : ∃ X, X1.alloc (.cells #[.bool false, .string ⟨#[]⟩] 29) = X := ⟨_, rfl⟩
  rw [hX2] at bR bP2 HB2
  have a0 := bP2.at 0 _ rfl
  have a1 := bP2.at 1 _ rfl
  have a2 := bP2.at 2 _ rfl
  have HBP := Lib.hid bP2
  have HBR := Lib.hid bR
  clear hn1 hm1 hj1 hq hq2 hmm hip hr hg hs hO hT hSS hV bP bR hb1 hb2 bP2 hsl hj
  go_enter Try.func50, Try.ntmps50
  go_wp2_with fail
  refine (HAT.out X2 HB2.out).mono ?_
  rintro e w3 ⟨rfl, hb3⟩
  clear a0 a1 a2
  cases V with
  | none =>
    have h2 : Below w3.heap.size w3 (w3.alloc (.cells #[.bool true, .string (mg 1)] 29)) := (Below.refl _ _).alloc (Nat.le_refl _) _
    have hst := hb3.trans (h2.mono hb3.size)
    have HBR3 := Lib.hid (HBR.out.below hst)
    have HB3 := Lib.hid (bstep HB2.out hst)
    have bT := Lib.hid (BC.new w3 w3.heap.size #[.bool true, .string (mg 1)] 29 rfl)
    unfold oV oB oS
    obtain ⟨Q, hQ⟩ : ∃ q, w3.heap.size = q := ⟨_, rfl⟩
    rw [hQ] at bT
    obtain ⟨X3, hX3⟩ : ∃ X, w3.alloc (.cells #[.bool true, .string (mg 1)] 29) = X := ⟨_, rfl⟩
    rw [hX3] at HBR3 HB3 bT
    have t0 := bT.out.at 0 _ rfl
    have HNO := Lib.hid (none39_any X3)
    clear hb3 h2 hst
    go_wp2_with fail
    refine HNO.out.mono ?_
    rintro e w4 ⟨rfl, hb4⟩
    have bR4 := HBR3.out.below hb4
    have HB4 := Lib.hid (bstep HB3.out hb4)
    have z0 := bR4.z 0 (by simp)
    have z1 := bR4.z 1 (by simp)
    have y0 := bR4.at 0 _ rfl
    have y1 := bR4.at 1 _ rfl
    have bS := bR4.set2 0 1 (.bool true) (.string (mg 1)) (by simp) (by simp)
    have s0 := bS.at 0 _ rfl
    have s1 := bS.at 1 _ rfl
    have HBF := Lib.hid ((HB4.out.setCell (p := ⟨P + 1, 0, none⟩) (by have := HP.out; show w.heap.size ≤ P + 1; omega) (.bool true)).setCell (p := ⟨P + 1, 1, none⟩) (by have := HP.out; show w.heap.size ≤ P + 1; omega) (.string (mg 1)))
    clear hb4 bR4 bS t0
    unfold oV oB oS
    go_wp2
    refine bodyPost_ret (v := .agg #[.bool true, .string (mg 1)]) (by simp [results, Try.results50, go_sem, s0, s1]) rfl ?_
    rw [HPL.out]
    exact ⟨rfl, HBF.out⟩
  | some x =>
    have hx := HTX.out x rfl
    have h2 : Below w3.heap.size w3 (w3.alloc (.cells #[.bool false, .string (mg x)] 29)) := (Below.refl _ _).alloc (Nat.le_refl _) _
    have hst := hb3.trans (h2.mono hb3.size)
    have HBR3 := Lib.hid (HBR.out.below hst)
    have HBP3 := Lib.hid (HBP.out.below hst)
    have HB3 := Lib.hid (bstep HB2.out hst)
    have bT := Lib.hid (BC.new w3 w3.heap.size #[.bool false, .string (mg x)] 29 rfl)
    unfold oV oB oS
    obtain ⟨Q, hQ⟩ : ∃ q, w3.heap.size = q := ⟨_, rfl⟩
    rw [hQ] at bT
    obtain ⟨X3, hX3⟩ : ∃ X, w3.alloc (.cells #[.bool false, .string (mg x)] 29) = X := ⟨_, rfl⟩
    rw [hX3] at HBR3 HB3 bT HBP3
    have t0 := bT.out.at 0 _ rfl
    obtain ⟨c0, c1⟩ := HSM.out X3 HB3.out
    have HAD := Lib.hid (fun Y => cAddN (x := SS) (d := x) N N HSL.out hx (by omega) (by omega) Y)
    clear hb3 h2 hst hx
    go_wp2_with fail
    refine wp_region_front 9 zvI (by kernel_rfl) shI (by kernel_rfl) (by kernel_rfl) (zvI_alloc _ (by kernel_rfl)) (shI_store _ (by kernel_rfl)) ?_
    intro mk BW hm1 hm2 hBW
    haveI := clm_some mk BW
    have fq0 := fun u : Clm mk BW => u.cellC hm1 hBW (HBP3.out.at 1 _ rfl)
    have fq1 := fun u : Clm mk BW => u.cellC hm1 hBW c0
    have fq2 := fun u : Clm mk BW => u.cellC hm1 hBW c1
    have fq3 := fun u : Clm mk BW => u.cellC hm1 hBW (bT.out.at 0 _ rfl)
    have fq4 := fun u : Clm mk BW => u.cellC hm1 hBW (bT.out.at 1 _ rfl)
    simp only [frontOf, unmade, List.take_succ_cons, List.take_zero, List.map_cons, List.map_nil]
    iterate 8 (go_big_quiet_step (fail))
    go_big_quiet_step ((go_at_call 42; exact quiet_clm hm2 HAD.out _))
    refine wpQuiet_nil ?_
    refine ⟨List.forall_mem_nil _, ?_⟩
    intro γ w7 hB7 hF
    clear hF hBW this hm1 hm2 fq0 fq1 fq2 fq3 fq4
    clear BW mk
    simp only [madesFrom, Facts, patch, List.take_succ_cons, List.take_zero, List.drop_succ_cons, List.drop_zero]
    clear γ
    have bR4 := HBR3.out.below hB7
    have HB4 := Lib.hid (bstep HB3.out hB7)
    have z0 := bR4.z 0 (by simp)
    have z1 := bR4.z 1 (by simp)
    have y0 := bR4.at 0 _ rfl
    have y1 := bR4.at 1 _ rfl
    have bS := bR4.set2 0 1 (.bool false) (.string (mg (SS + x))) (by simp) (by simp)
    have s0 := bS.at 0 _ rfl
    have s1 := bS.at 1 _ rfl
    have HBF := Lib.hid ((HB4.out.setCell (p := ⟨P + 1, 0, none⟩) (by have := HP.out; show w.heap.size ≤ P + 1; omega) (.bool false)).setCell (p := ⟨P + 1, 1, none⟩) (by have := HP.out; show w.heap.size ≤ P + 1; omega) (.string (mg (SS + x))))
    clear hB7 bR4 bS t0 c0 c1
    go_wp2
    refine bodyPost_ret (v := .agg #[.bool false, .string (mg (SS + x))]) (by simp [results, Try.results50, go_sem, s0, s1]) rfl ?_
    rw [HPL.out]
    exact ⟨rfl, HBF.out⟩
end Go.Proofs.Gv
