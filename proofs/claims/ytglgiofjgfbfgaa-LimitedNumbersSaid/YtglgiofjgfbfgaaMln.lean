/- grooveref39.Lengths: printed by mk_mln.py. -/
import Derived.Test.YtglgiofjgfbfgaaMle
import Derived.Test.YtglgiofjgfbfgaaLln
set_option linter.unusedSimpArgs false
set_option linter.unusedVariables false
namespace Go.Proofs.Gv
open Go Go.RowKit Go.Maps

/-- What stays as it is while the reference puts the lengths in their places. -/
structure KR9 (n S T Go N m : Nat) (gs : Nat → Nat) (O ord : List Nat) (W : World) : Prop where
  s : SumT W S O n
  o : BC W Go (natV ord)
  r : ∀ j, j ≤ m → W.cell? ⟨T, j, none⟩ = some (.slice (some ⟨gs j, 0, none⟩) N N) ∧ RowT W (gs j) O n (m - j)
theorem KR9.row {n S T Go N m : Nat} {gs : Nat → Nat} {O ord : List Nat} {W W' : World} {row : Option Nat} (h : KR9 n S T Go N m gs O ord W) (hg : W.grownBy W' row) (h2 : row ≠ some S) (h3 : row ≠ some T) (h4 : row ≠ some Go) (h5 : ∀ j, j ≤ m → row ≠ some (gs j)) : KR9 n S T Go N m gs O ord W' :=
  ⟨h.s.byGrown hg h2, h.o.byGrown hg h4, fun j hj => ⟨(World.cell?_of_block (hg.block _ (World.block_lt_of_cell? _ _ (h.r j hj).1) (fun e => h3 e.symm))).trans (h.r j hj).1, (h.r j hj).2.byGrown hg (h5 j hj)⟩⟩
theorem KR9.below {n S T Go N m : Nat} {gs : Nat → Nat} {O ord : List Nat} {W W' : World} (h : KR9 n S T Go N m gs O ord W) (hb : Below W.heap.size W W') : KR9 n S T Go N m gs O ord W' :=
  h.row (gRow hb none) (by simp) (by simp) (by simp) (fun _ _ => by simp)
/-- A cost as a number. -/
def oZ : Option Nat → Int | none => -1 | some x => (x : Int)
theorem oZ_cmp (a b : Option Nat) : (cmpI (oZ a) (oZ b) != 0) = !decide (a = b) := by
  cases a <;> cases b <;> simp only [oZ]
  · rfl
  · rename_i x
    rw [cmpI_lt (by omega)]; simp
  · rename_i x
    rw [cmpI_gt (by omega)]; simp
  · rename_i x y
    rcases cmpI_cases (x : Int) (y : Int) with ⟨h1, h2, -⟩ | ⟨h1, h2, -⟩ | ⟨h1, h2, -⟩ <;> rw [h2] <;> simp <;> omega
theorem oZ_rp {a : Option Nat} (h : ∀ z, a = some z → z < 2 ^ 100) : Rp (oB a) (oS a) (oZ a) := by
  cases a with
  | none => exact Rp.V (z := -1) 1 (by decide) (by decide)
  | some z => exact VN_rp (N := 100) (h z rfl) (by decide)
theorem plc_bd (O : List Nat) (n r k i p z : Nat) (h : plc O n r k i p = some z) (hb : ∀ k i x, tb O n r k i = some x → x < 2 ^ 90) (hs : O.sum < 2 ^ 90) : z < 2 ^ 91 := by
  unfold plc at h
  cases hy : tb O n r (min (2 * (k - p)) n) (i + p) with
  | none => rw [hy] at h; cases h
  | some y =>
    rw [hy] at h
    have e : (O.drop (i + p)).sum + y = z := by simpa using h
    have h2 := hb _ _ _ hy
    have h3 := congrArg List.sum (List.take_append_drop (i + p) O)
    rw [List.sum_append] at h3
    have h6 : (2 : Nat) ^ 91 = 2 ^ 90 + 2 ^ 90 := by decide
    omega
set_option maxRecDepth 100000 in
set_option maxHeartbeats 16000000 in
theorem rLengths39_any (cap : Nat) (a : Option Addr) (L : List (Bool × ByteArray)) (m : Int) (hc : L.length ≤ cap) (hcm : cap ≤ maxLen) (h12 : L.length ≤ 12 ∨ 64 < L.length) (hz : ∀ x ∈ L, x.2.size ≤ 8) (hm : (Lit.int .i64 m).wf = true) (w : World) (hSl : Sl w a L) :
    Calls Try.prog 24 #[.slice a L.length cap, .int .i64 m] w (LLn L m w) := by
  have HCK := Lib.hid (rcheck39_any cap a L m (Nat.le_trans hc hcm) h12 hz hm w hSl)
  by_cases h0 : ¬ limE L m = 0
  · obtain ⟨E, hE⟩ : ∃ E, limE L m = E := ⟨_, rfl⟩
    have HE := Lib.hid hE
    rw [hE] at HCK h0
    have hne : (E != 0) = true := by simpa using h0
    have HN := Lib.hid h0
    clear h0 hE hSl hz
    go_enter Try.func24, Try.ntmps24
    go_wp2_with fail
    refine HCK.out.mono ?_
    rintro e w1 ⟨rfl, hb⟩
    go_wp2
    go_ret2
    unfold LLn
    rw [HE.out]
    exact ⟨fun _ => rfl, fun h => absurd h HN.out, hb⟩
  · have h0 := Decidable.not_not.1 h0
    obtain ⟨hck, m, rfl, hk1, hk64, hk2⟩ := limE_ok h0
    obtain ⟨h2, h64, Ws, hWs⟩ := chkW_ok hck
    obtain rfl : L = VL Ws := hWs
    have HL0 := Lib.hid h0
    rw [h0] at HCK
    obtain ⟨A, rfl⟩ := hSl.some9 (by omega)
    rw [VL_len] at hc h2 h64 h12 hk2 HCK ⊢
    have HNP := Lib.hid (fun W (hb : Below w.heap.size w W) => rtable_any A cap Ws m (by omega) (by omega) hk64 (VLlt9 hz) W (hSl.below hb))
    have HSU := Lib.hid (fun W (hb : Below w.heap.size w W) => rsums_any A cap Ws (by omega) (by omega) (VLlt9 hz) W (hSl.below hb))
    have HOR := Lib.hid (fun W (hb : Below w.heap.size w W) => rorder_any A cap Ws (by omega) (by omega) (VLlt9 hz) W (hSl.below hb))
    have HLI := Lib.hid (LnI.start (Ws := Ws) (m := m) (by omega) hk2)
    have HOL := Lib.hid (fun o (ho : o ∈ ordL Ws) => ordL_lt ho)
    have HOLN := Lib.hid (ordL_len Ws)
    have HOS := Lib.hid (show (owL Ws).sum < 2 ^ 74 from sum_lt (N := 64) (fun z hz2 => by
      obtain ⟨o, ho, rfl⟩ := List.mem_map.1 hz2
      have := ordL_lt ho
      exact VLlt9 hz _ (by rw [List.getD_eq_getElem?_getD, List.getElem?_eq_getElem this]; exact List.getElem_mem _)) (by rw [owL_len]; omega))
    obtain ⟨n, hn⟩ : ∃ n, Ws.length = n := ⟨_, rfl⟩
    have HNN := Lib.hid hn
    have h12n : n ≤ 12 := by omega
    have h2n : 2 ≤ n := by omega
    rw [hn] at HCK HNP HOR HSU HLI HOL HOLN ⊢
    obtain ⟨n1, hn1⟩ : ∃ x, n + 1 = x := ⟨_, rfl⟩
    obtain ⟨m1, hm1⟩ : ∃ x, m + 1 = x := ⟨_, rfl⟩
    obtain ⟨N, hN⟩ : ∃ N, (n + 1) * (n + 1) = N := ⟨_, rfl⟩
    have HN1 := Lib.hid hn1
    have HM1 := Lib.hid hm1
    have HNS := Lib.hid hN
    have hmk := mk_ints (n : Int) n rfl (by omega)
    clear h0 hSl hz hn hc h12 hk2 hck hn1 hm1 hN h2 h64
    go_enter Try.func24, Try.ntmps24
    go_wp2_with fail
    refine HCK.out.mono ?_
    rintro e w1 ⟨rfl, hb⟩
    have HB := Lib.hid hb
    have HX1 := Lib.hid (HOR.out w1 hb)
    clear hb HCK HOR
    go_wp2_with fail
    refine HX1.out.mono ?_
    rintro e w2 ⟨Go, cg, rfl, hcg, hcgm, -, hord, hb2⟩
    have HCG := Lib.hid (And.intro hcg hcgm)
    have HB2 := Lib.hid (bstep HB.out hb2)
    have HORD := Lib.hid hord
    have HX2 := Lib.hid (HSU.out w2 HB2.out)
    clear hb2 HB HSU hord
    go_wp2_with fail
    refine HX2.out.mono ?_
    rintro e w3 ⟨S, rfl, hs, -, hb3⟩
    have HB3 := Lib.hid (bstep HB2.out hb3)
    have HS3 := Lib.hid hs
    have HORD3 := Lib.hid (HORD.out.below hb3)
    have HX3 := Lib.hid (HNP.out w3 HB3.out)
    clear hb3 HB2 HNP hs HORD
    go_wp2_with fail
    refine HX3.out.mono ?_
    intro e w4 hq
    obtain ⟨T, gs, rfl, hrows, hb4⟩ := hq
    obtain ⟨O, hO⟩ : ∃ O, owL Ws = O := ⟨_, rfl⟩
    rw [HNN.out] at hrows
    rw [hO] at hrows HS3 HOS
    rw [HNS.out] at hrows
    have HOO := Lib.hid hO
    rw [HN1.out, HM1.out]
    have HB4 := Lib.hid (bstep HB3.out hb4)
    have HR4 := Lib.hid hrows
    have HS4 := Lib.hid (HS3.out.below hb4)
    have HORD4 := Lib.hid (HORD3.out.below hb4)
    clear hrows hb4 HB3 hO HS3 HORD3
    have hal : Below w4.heap.size w4 (w4.alloc (.cells (madeCells #[.int .i64 0] n) 3)) := (Below.refl _ _).alloc (Nat.le_refl _) _
    have hq := BC.new w4 w4.heap.size (madeCells #[.int .i64 0] n) 3 rfl
    rw [made_natV] at hq
    have hkl : KR9 n S T Go N m gs O (ordL Ws) (w4.alloc (.cells (madeCells #[.int .i64 0] n) 3)) := ⟨HS4.out.below hal, HORD4.out.below hal, fun j hj => ⟨cellBelow (HR4.out j hj).1 hal, (HR4.out j hj).2.below hal⟩⟩
    have l2 : S < w4.heap.size := World.block_lt_of_cell? _ ⟨S, 0 * 2, none⟩ (HS4.out 0 (Nat.zero_le _)).1
    have l3 : T < w4.heap.size := World.block_lt_of_cell? _ ⟨T, 0, none⟩ (HR4.out 0 (Nat.zero_le _)).1
    have l4 : ∀ j, j ≤ m → gs j < w4.heap.size := fun j hj => World.block_lt_of_cell? _ ⟨gs j, (0 * (n + 1) + 0) * 2, none⟩ ((HR4.out j hj).2 0 0 (Nat.zero_le _) (Nat.zero_le _)).1
    have l5 : Go < w4.heap.size := HORD4.out.lt
    have HQS := Lib.hid (HB4.out.size)
    have HBW := Lib.hid (bstep HB4.out hal)
    have HKL := Lib.hid hkl
    have HQ := Lib.hid hq
    clear hal hq hkl HS4 HORD4 HR4 HB4
    go_upto_region 7 with fail
    obtain ⟨Q, hQQ⟩ : ∃ b, w4.heap.size = b := ⟨_, rfl⟩
    rw [hQQ] at HQ HQS l2 l3 l4 l5 ⊢
    obtain ⟨Wx, hWx⟩ : ∃ X, w4.alloc (.cells (madeCells #[.int .i64 0] n) 3) = X := ⟨_, rfl⟩
    rw [hWx] at HQ HBW HKL ⊢
    have HKR := Lib.hid (show ∀ W W', KR9 n S T Go N m gs O (ordL Ws) W → W.grownBy W' (some Q) → KR9 n S T Go N m gs O (ordL Ws) W' from fun W W' h hg =>
      h.row hg (fun e => by have := Option.some.inj e; omega) (fun e => by have := Option.some.inj e; omega) (fun e => by have := Option.some.inj e; omega) (fun j hj e => by have := Option.some.inj e; have := l4 j hj; omega))
    have HQW := Lib.hid (show w.heap.size ≤ Q from HQS.out)
    clear hQQ hWx l2 l3 l4 l5 HQS hmk
    · go_wp2_with fail
      go_loopg [12, 13, 14] (m + 3) (fun gg v11 v12 v10 wr => ∃ (j k i : Nat) (out : List Nat), v10 = .int .i64 (j : Int) ∧ v11 = .int .i64 (k : Int) ∧ v12 = .int .i64 (i : Int) ∧ i ≤ n ∧ k ≤ n ∧ j ≤ m + 1 ∧ m + 1 - j < gg ∧ BC wr Q (natV out) ∧ out.length = n ∧ Wx.grownBy wr (some Q) ∧ LnI Ws m j k i out)
      case atStart => exact ⟨0, 1, 0, _, rfl, rfl, rfl, Nat.zero_le _, by omega, by omega, by omega, HQ.out, List.length_replicate, ⟨rfl, rfl, rfl, Nat.le_refl _, fun _ _ _ => rfl⟩, HLI.out⟩
      case round =>
        obtain ⟨j, k, i, out, rfl, rfl, rfl, hi, hk, hj, hjg, hq, hol, hgw, hln⟩ := hrel
        clear HQ
        have HJG := Lib.hid hjg
        have HQ := Lib.hid hq
        have HOLEN := Lib.hid hol
        have HGW := Lib.hid hgw
        have HLN := Lib.hid hln
        have HK1 := Lib.hid (HKR.out _ _ HKL.out hgw)
        clear hjg hq hol hgw hln
        by_cases hin : i < n
        · have hinI : (i : Int) < n := by omega
          have hjm : j ≤ m := by
            rcases HLN.out with ⟨h, -⟩ | ⟨-, h, -⟩
            · have := HNN.out; omega
            · exact h
          have hi12 : i ≤ 12 := by omega
          have hk12 : k ≤ 12 := by omega
          have hj64 : j ≤ 64 := by omega
          obtain ⟨ni, hni⟩ : ∃ x, n - i = x := ⟨_, rfl⟩
          have hniI : (n : Int) - (i : Int) = (ni : Int) := by omega
          have hni12 : ni ≤ 12 := by omega
          obtain ⟨pm, hpm⟩ : ∃ x, min k ni = x := ⟨_, rfl⟩
          have hpmI : min (k : Int) (ni : Int) = (pm : Int) := by omega
          have hpm12 : pm ≤ 12 := by omega
          obtain ⟨r, hr⟩ : ∃ x, m - j = x := ⟨_, rfl⟩
          have HRR := Lib.hid hr
          have HPM := Lib.hid (show min k (n - i) = pm from by rw [hni]; exact hpm)
          clear hni hpm hr
          obtain ⟨Wa, hWa⟩ : ∃ X, X = wr := ⟨_, rfl⟩
          rw [← hWa] at HQ HGW HK1 ⊢
          clear hWa
          go_upto_if 46 with fail
          go_cut [15] (fun v15 wx => ∃ p : Nat, v15 = .int .i64 (p : Int) ∧ pnum O n r k i = p ∧ Below Wa.heap.size Wa wx)
          case first =>
            by_cases hjlt : j < m
            · have hjI : (j : Int) < (m : Int) := by omega
              obtain ⟨j1, hj1⟩ : ∃ x, j + 1 = x := ⟨_, rfl⟩
              have hj1I : (j : Int) + 1 = (j1 : Int) := by omega
              have hj1m : (j1 : Int) < (m1 : Int) := by have := HM1.out; omega
              have hjm1 : (j : Int) < (m1 : Int) := by have := HM1.out; omega
              have hj164 : j1 ≤ 64 := by omega
              have HJ1 := Lib.hid hj1
              obtain ⟨kn, hkne⟩ : ∃ x, k * (n + 1) = x := ⟨_, rfl⟩
              have hn1I : (n : Int) + 1 = (n1 : Int) := by have := HN1.out; omega
              have hn13 : n1 ≤ 13 := by have := HN1.out; omega
              have hknE : (k : Int) * (n1 : Int) = (kn : Int) := by rw [← hkne, ← HN1.out]; simp
              have hkn156 : kn ≤ 156 := by rw [← hkne]; exact Nat.mul_le_mul (show k ≤ 12 by omega) (show n + 1 ≤ 13 by omega)
              obtain ⟨q, hqq⟩ : ∃ x, kn + i = x := ⟨_, rfl⟩
              have hqI : (kn : Int) + (i : Int) = (q : Int) := by omega
              have hqN : (q : Int) < (N : Int) := by
                have := plc_le (n := n) (k := k) (i := i) hk hi
                rw [hkne, HNS.out, hqq] at this
                omega
              have HQQ := Lib.hid (show k * (n + 1) + i = q by rw [hkne, hqq])
              clear hj1 hkne hqq
              go_wp2_with fail
              go_loopg [15] (pm + 2) (fun gg v13 wr => ∃ p : Nat, v13 = .int .i64 (p : Int) ∧ p ≤ pm ∧ p < gg ∧ (r = 0 → p = pm) ∧ (∀ r1, r = r1 + 1 → dnP (plc O n r1 k i) (tb O n (r1 + 1) k i) pm = dnP (plc O n r1 k i) (tb O n (r1 + 1) k i) p) ∧ Below Wa.heap.size Wa wr)
              case atStart => exact ⟨pm, rfl, Nat.le_refl _, by omega, fun _ => rfl, fun _ _ => rfl, Below.refl _ _⟩
              case round =>
                obtain ⟨p, rfl, hp, hpg, hp0', hp1', hbq⟩ := hrel
                have HPG := Lib.hid hpg
                have HP0 := Lib.hid hp0'
                have HP1 := Lib.hid hp1'
                have HBQ := Lib.hid hbq
                have HK2 := Lib.hid (HK1.out.below hbq)
                have hp12 : p ≤ 12 := by omega
                clear hpg hp0' hp1' hbq
                obtain ⟨r1, hr1⟩ : ∃ x, r = x + 1 := ⟨r - 1, by have := HRR.out; omega⟩
                have hbb : ∀ k i x, tb O n r1 k i = some x → x < 2 ^ 90 := fun k i x h => by
                  have h3 := tb_le O n r1 k i x h
                  have h4 : r1 * O.sum ≤ 64 * O.sum := Nat.mul_le_mul_right _ (by have := HRR.out; omega)
                  have h5 := HOS.out
                  have : (2 : Nat) ^ 90 = 65536 * 2 ^ 74 := by decide
                  omega
                have hpk : p ≤ k ∧ i + p ≤ n := by have := HPM.out; omega
                obtain ⟨cr1, rr1⟩ := HK2.out.r j1 (by have := HJ1.out; omega)
                obtain ⟨cr0, rr0⟩ := HK2.out.r j hjm
                rw [show m - j1 = r1 by have := HRR.out; have := HJ1.out; omega] at rr1
                rw [show m - j = r1 + 1 by have := HRR.out; omega] at rr0
                have hcc1 := cr1
                have hcc0 := cr0
                obtain ⟨cq0, cq1⟩ := rr0 k i hk hi
                rw [HQQ.out] at cq0 cq1
                have HPC := Lib.hid (fun Y (h : Below wr.heap.size wr Y) => rchoice_any n S (gs j1) k i p r1 90 O Y h12n hk hpk.1 hpk.2 (by decide) (rr1.below h) (HK2.out.below h).s (Nat.lt_of_lt_of_le HOS.out (Nat.pow_le_pow_right (by decide) (by decide))) hbb)
                rw [HNS.out, HN1.out] at HPC
                have HD := Lib.hid (HP1.out r1 hr1)
                have HPI := Lib.hid (pnum_is O (n := n) (r := r1) (k := k) hin)
                have HE1 := Lib.hid (show pnum O n r k i = dnP (plc O n r1 k i) (tb O n (r1 + 1) k i) p from by rw [← HD.out, hr1, pnum_succ, HPM.out])
                obtain ⟨x, hx⟩ : ∃ x, decide (plc O n r1 k i p = tb O n (r1 + 1) k i) = x := ⟨_, rfl⟩
                have HXX := Lib.hid hx
                obtain ⟨c, hc⟩ : ∃ c, cmpI (oZ (plc O n r1 k i p)) (oZ (tb O n (r1 + 1) k i)) = c := ⟨_, rfl⟩
                have hcx : (c != 0) = !x := by rw [← hc, ← hx]; exact oZ_cmp _ _
                have HCP := Lib.hid (fun X => rCompare_any (oB (plc O n r1 k i p)) (oB (tb O n (r1 + 1) k i)) (oS (plc O n r1 k i p)) (oS (tb O n (r1 + 1) k i)) (oZ (plc O n r1 k i p)) (oZ (tb O n (r1 + 1) k i)) X (oZ_rp (fun z hz => Nat.lt_of_lt_of_le (plc_bd O n r1 k i p z hz hbb (Nat.lt_of_lt_of_le HOS.out (Nat.pow_le_pow_right (by decide) (by decide)))) (Nat.pow_le_pow_right (by decide) (by decide)))) (oZ_rp (fun z hz => by
                  have h3 := tb_le O n (r1 + 1) k i z hz
                  have h4 : (r1 + 1) * O.sum ≤ 64 * O.sum := Nat.mul_le_mul_right _ (by have := HRR.out; omega)
                  have h5 := HOS.out
                  have : (2 : Nat) ^ 100 = 65536 * 1024 * 2 ^ 74 := by decide
                  omega)))
                rw [hc] at HCP
                have hR1 := Lib.hid hr1
                unfold oV at HPC
                obtain ⟨b1, hb1⟩ : ∃ b, oB (plc O n r1 k i p) = b := ⟨_, rfl⟩
                obtain ⟨s1, hs1⟩ : ∃ b, oS (plc O n r1 k i p) = b := ⟨_, rfl⟩
                obtain ⟨b2, hb2⟩ : ∃ b, oB (tb O n (r1 + 1) k i) = b := ⟨_, rfl⟩
                obtain ⟨s2, hs2⟩ : ∃ b, oS (tb O n (r1 + 1) k i) = b := ⟨_, rfl⟩
                rw [hb1, hs1, hb2, hs2] at HCP
                rw [hb1, hs1] at HPC
                rw [hb2] at cq0
                rw [hs2] at cq1
                haveI := cls_some wr
                have f0 : ∀ u : Cl wr, u.x.cell? ⟨T, j1, none⟩ = some (.slice (some ⟨gs j1, 0, none⟩) N N) := fun u => cellBelow hcc1 u.h
                have f1 : ∀ u : Cl wr, u.x.cell? ⟨T, j, none⟩ = some (.slice (some ⟨gs j, 0, none⟩) N N) := fun u => cellBelow hcc0 u.h
                have f2 : ∀ u : Cl wr, u.x.cell? ⟨gs j, q * 2, none⟩ = some (.bool b2) := fun u => cellBelow cq0 u.h
                have f3 : ∀ u : Cl wr, u.x.cell? ⟨gs j, q * 2 + 1, none⟩ = some (.string s2) := fun u => cellBelow cq1 u.h
                clear hbb hx hb1 hs1 hb2 hs2 hr1 hc cr1 cr0 rr1 rr0 hcc1 hcc0 cq0 cq1
                go_wp2_with fail
                refine wp_region_cls (by kernel_rfl) ?_
                iterate 10 (go_big_quiet_step (fail))
                go_big_quiet_step ((go_at_call 64; exact quiet_cB (Below.refl _ _) HPC.out _))
                iterate 12 (go_big_quiet_step (fail))
                go_big_quiet_step ((go_at_call 63; exact quiet_cls HCP.out _))
                iterate 1 (go_big_quiet_step (fail))
                refine wpQuiet_nil ?_
                intro w7 hw7
                obtain ⟨u7, rfl⟩ := hw7
                have HB7 := Lib.hid (bstep HBQ.out u7.h)
                clear f0 f1 f2 f3
                cases x with
                | true =>
                  have HPE := Lib.hid (show pnum O n r k i = p from by rw [HE1.out, dnP_hit (of_decide_eq_true HXX.out)])
                  go_wp2_with fail
                  go_meet
                  exact ⟨p, rfl, HPE.out, HB7.out⟩
                | false =>
                  have hxx := of_decide_eq_false HXX.out
                  have hp1 : 1 ≤ p := by
                    rcases Nat.eq_zero_or_pos p with h | h
                    · exfalso
                      subst h
                      apply hxx
                      have h2 := HPI.out
                      have h3 : pnum O n (r1 + 1) k i = 0 := by rw [← hR1.out, HE1.out]; rfl
                      rw [h3] at h2
                      exact h2
                    · exact h
                  obtain ⟨p1, hp2⟩ : ∃ x, p - 1 = x := ⟨_, rfl⟩
                  have hpI : (p : Int) - 1 = (p1 : Int) := by omega
                  have HDN := Lib.hid (show dnP (plc O n r1 k i) (tb O n (r1 + 1) k i) p = dnP (plc O n r1 k i) (tb O n (r1 + 1) k i) p1 from by
                    rw [show p = p1 + 1 by omega, dnP_succ, if_neg (by rw [show p1 + 1 = p by omega]; exact hxx)])
                  have HPP1 := Lib.hid hp2
                  clear hxx hp2
                  go_wp2_with fail
                  go_roundg p
                  case rel => exact ⟨p1, by go_num, by have := HPP1.out; omega, by have := HPP1.out; omega, fun h => by have := hR1.out; omega, fun r2 h2 => by
                    have h3 := hR1.out
                    obtain rfl : r2 = r1 := by omega
                    exact HD.out.trans HDN.out, HB7.out⟩
                  case measure => have := HPG.out; omega
            · have hjB : decide ((j : Int) < (m : Int)) = false := by simp; omega
              have hr0 : r = 0 := by have := HRR.out; omega
              have HPE := Lib.hid (show pnum O n r k i = pm from by rw [hr0, pnum_zero, HPM.out])
              go_wp2_with fail
              go_meet
              exact ⟨pm, rfl, HPE.out, Below.refl _ _⟩
          case rest =>
            obtain ⟨p, rfl, hpn, hbq⟩ := hcut
            have HQ3 := Lib.hid (HQ.out.below hbq)
            have HGW3 := Lib.hid (HGW.out.andThen (gRow hbq (some Q)) (fun k e => .inr e))
            have hple := pnum_le O n r k i
            rw [hpn] at hple
            have hpk : p ≤ k := by omega
            have hpn2 : i + p ≤ n := by omega
            have hp12 : p ≤ 12 := by omega
            have HNX := Lib.hid (show LnI Ws m (j + 1) (min (2 * (k - p)) n) (i + p) (putX out ((ordL Ws).drop i) j p) from by
              have := HLN.out.next (by rw [HNN.out]; exact hin) (p := p) (by rw [HOO.out, HNN.out, HRR.out]; exact hpn.symm)
              rwa [HNN.out] at this)
            clear hbq hple hpn HQ
            go_wp2_with fail
            go_loopg [16] (p + 1) (fun gg v60 wr => ∃ x : Nat, v60 = .int .i64 (x : Int) ∧ x ≤ p ∧ p - x < gg ∧ BC wr Q (natV (putX out ((ordL Ws).drop i) j x)) ∧ Wx.grownBy wr (some Q))
            case atStart => exact ⟨0, rfl, Nat.zero_le _, by omega, by rw [putX_zero]; exact HQ3.out, HGW3.out⟩
            case round =>
              obtain ⟨x, rfl, hx, hxg, hq, hgw⟩ := hrel
              clear HQ3 HGW3
              obtain ⟨y, hy0⟩ : ∃ y, i + x = y := ⟨_, rfl⟩
              have hyI : (i : Int) + (x : Int) = (y : Int) := by omega
              have hy : y = i + x := hy0.symm
              clear hy0
              have HXG := Lib.hid hxg
              have HQ := Lib.hid hq
              have HGX := Lib.hid hgw
              have HK5 := Lib.hid (HKR.out _ _ HKL.out hgw)
              have HYY := Lib.hid hy
              have hy12 : y ≤ 12 := by omega
              clear hxg hq hgw
              by_cases hxp : x < p
              · have hxI : (x : Int) < (p : Int) := by omega
                have hyn : y < n := by omega
                have hynI : (y : Int) < (n : Int) := by omega
                obtain ⟨o, ho⟩ : ∃ o, (ordL Ws)[y]? = some o := ⟨(ordL Ws)[y]'(by rw [HOLN.out]; exact hyn), List.getElem?_eq_getElem _⟩
                have hon := HOL.out o (List.mem_of_getElem? ho)
                have honI : (o : Int) < (n : Int) := by omega
                have hod : ((ordL Ws).drop i)[x]? = some o := by rw [List.getElem?_drop, ← hy]; exact ho
                have c0 := HK5.out.o.at y _ (natV_is ho)
                have hlen : (putX out ((ordL Ws).drop i) j x).length = n := by rw [putX_len, HOLEN.out]
                have hl : o < (natV (putX out ((ordL Ws).drop i) j x)).length := by rw [natV_length, hlen]; exact hon
                obtain ⟨v0, hv0⟩ : ∃ v, (natV (putX out ((ordL Ws).drop i) j x))[o]? = some v := ⟨_, List.getElem?_eq_getElem hl⟩
                have q0 := HQ.out.at o _ hv0
                have z0 := HQ.out.z o hl
                have HQN := Lib.hid (show BC (wr.setCell ⟨Q, o, none⟩ (.int .i64 (j : Int))) Q (natV (putX out ((ordL Ws).drop i) j (x + 1))) from by
                  have h := HQ.out.set o (.int .i64 (j : Int)) hl
                  rw [putX_succ hod]
                  unfold natV at h ⊢
                  rw [List.map_set]
                  exact h)
                have HGN := Lib.hid (HGX.out.andThen (gSetB wr Q o (.int .i64 (j : Int))) (fun k e => .inr e))
                have ho12 : o ≤ 12 := by omega
                clear ho hod hlen hl hv0 hy
                go_wp2_with fail
                go_roundg (p - x)
                case rel => exact ⟨x + 1, by go_num, by omega, by omega, HQN.out, HGN.out⟩
                case measure => have := HXG.out; omega
              · obtain rfl : x = p := by omega
                have hB : decide ((x : Int) < x) = false := by simp
                obtain ⟨kp, hkp⟩ : ∃ z, k - x = z := ⟨_, rfl⟩
                obtain ⟨kq, hkq⟩ : ∃ z, 2 * kp = z := ⟨_, rfl⟩
                obtain ⟨k2, hk2⟩ : ∃ z, min kq n = z := ⟨_, rfl⟩
                have hkpI : (k : Int) - (x : Int) = (kp : Int) := by omega
                have hkqI : 2 * (kp : Int) = (kq : Int) := by omega
                have hk2I : min (kq : Int) (n : Int) = (k2 : Int) := by omega
                have hkp12 : kp ≤ 12 := by omega
                have hkq24 : kq ≤ 24 := by omega
                have HK2 := Lib.hid (show min (2 * (k - x)) n = k2 ∧ k2 ≤ n from ⟨by rw [hkp, hkq]; exact hk2, by omega⟩)
                clear hkp hkq hk2 hy
                go_wp2_with fail
                go_roundg (m + 1 - j)
                case rel =>
                  refine ⟨j + 1, k2, y, _, by go_num, rfl, by go_num, by have := HYY.out; omega, HK2.out.2, by omega, by omega, HQ.out, by rw [putX_len, HOLEN.out], HGX.out, ?_⟩
                  rw [HYY.out, ← HK2.out.1]
                  exact HNX.out
                case measure => have := HJG.out; omega
        · obtain rfl : n = i := by omega
          have hB : decide ((n : Int) < n) = false := by simp
          have HF := Lib.hid (show out = limL Ws m from by
            rcases HLN.out with ⟨-, h⟩ | ⟨h, -⟩
            · exact h
            · have := HNN.out; omega)
          go_wp2
          go_ret2
          unfold LLn
          refine ⟨fun h => absurd HL0.out h, fun _ => ⟨Ws, Q, rfl, by rw [HNN.out]; rfl, ?_⟩, HBW.out.grown HGW.out HBW.out.size (fun k e => by cases e; exact HQW.out)⟩
          rw [Int.toNat_natCast, ← HF.out]
          exact HQ.out
end Go.Proofs.Gv
