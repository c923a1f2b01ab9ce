/- grooveref39.sums. -/
import Derived.Test.YtghjjfknlnegpaaGreatMorP
import Derived.Test.YtghjjfknlnegpaaGreatLnp
import Derived.Test.YtghjjfknlnegpaaGreatLplP
set_option linter.unusedSimpArgs false
set_option linter.unusedVariables false
namespace Go.Proofs.Gv
open Go Go.RowKit Go.Maps

theorem owL_at {Ws : List Nat} {i o x : Nat} (h : (ordL Ws)[i]? = some o) (hx : Ws[o]? = some x) : (owL Ws)[i]? = some x := by
  unfold owL
  rw [List.getElem?_map, h]
  simp [List.getD_eq_getElem?_getD, hx]
theorem drop_sum {O : List Nat} {i x : Nat} (h : O[i]? = some x) : (O.drop i).sum = (O.drop (i + 1)).sum + x := by
  obtain ⟨h1, h2⟩ := List.getElem?_eq_some_iff.1 h
  rw [List.drop_eq_getElem_cons h1, List.sum_cons, h2, Nat.add_comm]
set_option maxRecDepth 100000 in
set_option maxHeartbeats 8000000 in
theorem rsums_any (A : Addr) (cap : Nat) (Ws : List Nat) (h1 : 1 ≤ Ws.length) (h12 : Ws.length ≤ 12) (hz : ∀ z ∈ Ws, z < 2 ^ 64) (w : World) (hS : Sl w (some A) (VL Ws)) :
    Calls Tryz.prog 48 #[.slice (some A) Ws.length cap] w fun e w' => ∃ S, e = .returned (.slice (some ⟨S, 0, none⟩) (Ws.length + 1) (Ws.length + 1)) ∧ SumT w' S (owL Ws) Ws.length ∧ w.heap.size ≤ S ∧ Below w.heap.size w w' := by
  have HOR := Lib.hid (rorder_any A cap Ws h1 (by omega) hz w hS)
  have HS := Lib.hid hS
  have HZ := Lib.hid hz
  have HOS := Lib.hid (show (owL Ws).sum < 2 ^ 74 from sum_lt (N := 64) (fun z hz2 => by
    obtain ⟨o, ho, rfl⟩ := List.mem_map.1 hz2
    have := ordL_lt ho
    exact hz _ (by rw [List.getD_eq_getElem?_getD, List.getElem?_eq_getElem this]; exact List.getElem_mem _)) (by rw [owL_len]; omega))
  have HOL := Lib.hid (ordL_len Ws)
  have HOW := Lib.hid (owL_len Ws)
  obtain ⟨n, hn⟩ : ∃ n, Ws.length = n := ⟨_, rfl⟩
  have HN := Lib.hid hn
  rw [hn] at h1 h12 HOR HOL HOW ⊢
  obtain ⟨n1, hn1⟩ : ∃ x, n + 1 = x := ⟨_, rfl⟩
  have hn1I : (n : Int) + 1 = (n1 : Int) := by omega
  have HN1 := Lib.hid hn1
  have hmk := mkIs9 n1 (by omega)
  have hnI : (n : Int) ≤ 12 := by omega
  rw [hn1]
  clear hS hz hn hn1
  go_enter Tryz.func48, Tryz.ntmps48
  go_wp2_with fail
  refine HOR.out.mono ?_
  rintro e w1 ⟨go, co, rfl, hc1, hc2, hgo, hbo, hb⟩
  have hal : Below w1.heap.size w1 (w1.alloc (.cells (madeCells #[.bool false, .string ⟨#[]⟩] (n1 * 2)) 29)) := (Below.refl _ _).alloc (Nat.le_refl _) _
  have HB1 := Lib.hid (bstep hb hal)
  have HO1 := Lib.hid (hbo.below hal)
  have HP1 := Lib.hid (show BC (w1.alloc (.cells (madeCells #[.bool false, .string ⟨#[]⟩] (n1 * 2)) 29)) w1.heap.size (inV (rwF n1 (smF (owL Ws) n))) from by
    have h := BC.new w1 w1.heap.size (madeCells #[.bool false, .string ⟨#[]⟩] (n1 * 2)) 29 rfl
    rw [madeF, ← HN1.out, smF_start HOW.out, HN1.out] at h
    exact h)
  have HGL := Lib.hid (show go < w1.heap.size ∧ w.heap.size ≤ w1.heap.size from ⟨hbo.lt, hb.size⟩)
  clear hgo hbo hb hal HOR hc1 hc2
  go_wp2_with fail
  clear hmk
  obtain ⟨S, hS⟩ : ∃ b, w1.heap.size = b := ⟨_, rfl⟩
  rw [hS] at HP1 HGL ⊢
  obtain ⟨Y1, hY1⟩ : ∃ X, w1.alloc (.cells (madeCells #[.bool false, .string ⟨#[]⟩] (n1 * 2)) 29) = X := ⟨_, rfl⟩
  rw [hY1] at HB1 HO1 HP1 ⊢
  clear hY1 hS
  go_loopg [5] (n + 1) (fun gg v5 wr => ∃ j : Nat, v5 = .int .i64 ((j : Int) - 1) ∧ j ≤ n ∧ j < gg ∧ BC wr S (inV (rwF n1 (smF (owL Ws) j))) ∧ BC wr go (natV (ordL Ws)) ∧ Below w.heap.size w wr)
  case atStart => exact ⟨n, rfl, Nat.le_refl _, by omega, HP1.out, HO1.out, HB1.out⟩
  case round =>
    obtain ⟨j, rfl, hj, hjg, hjp, hjo, hjb⟩ := hrel
    have HJG := Lib.hid hjg
    have HJP := Lib.hid hjp
    have HJO := Lib.hid hjo
    have HJB := Lib.hid hjb
    clear hjg hjp hjo hjb HP1 HO1 HB1
    rcases Nat.eq_zero_or_pos j with h0 | h0
    · subst h0
      have hB : decide ((0 : Int) ≤ ((0 : Nat) : Int) - 1) = false := by decide
      go_wp2_with fail
      go_ret
      refine ⟨S, rfl, SumT.of (by have := HJP.out; rw [← HN1.out] at this; exact this), HGL.out.2, HJB.out⟩
    · obtain ⟨i, rfl⟩ : ∃ i, j = i + 1 := ⟨j - 1, by omega⟩
      have hin : i < n := hj
      have hi0I : (0 : Int) ≤ (i : Int) := by omega
      have hinI : (i : Int) < (n : Int) := by omega
      have hinI1 : (i : Int) < (n1 : Int) := by have := HN1.out; omega
      have hi1I : (i : Int) + 1 < (n1 : Int) := by have := HN1.out; omega
      have e1 : (((i + 1 : Nat) : Int) - 1) = (i : Int) := by omega
      rw [e1]
      obtain ⟨o, ho⟩ : ∃ o, (ordL Ws)[i]? = some o := ⟨(ordL Ws)[i]'(by rw [HOL.out]; exact hin), List.getElem?_eq_getElem _⟩
      have hon : o < n := by rw [← HN.out]; exact ordL_lt (List.mem_of_getElem? ho)
      have honI : (o : Int) < (n : Int) := by omega
      obtain ⟨x, hx⟩ : ∃ x, Ws[o]? = some x := ⟨Ws[o]'(by rw [HN.out]; exact hon), List.getElem?_eq_getElem _⟩
      have HDS := Lib.hid (drop_sum (owL_at ho hx))
      have hxb := HZ.out x (List.mem_of_getElem? hx)
      have hdb : ((owL Ws).drop (i + 1)).sum < 2 ^ 74 := Nat.lt_of_le_of_lt (by
        have h := List.take_append_drop (i + 1) (owL Ws)
        conv => rhs; rw [← h, List.sum_append]
        exact Nat.le_add_left _ _) HOS.out
      obtain ⟨D, hD⟩ : ∃ D, ((owL Ws).drop (i + 1)).sum = D := ⟨_, rfl⟩
      have HADD := Lib.hid (fun X => rAddN (x := D) (d := x) 74 64 (by rw [← hD]; exact hdb) hxb (by decide) (by decide) X)
      rw [hD] at HDS
      obtain ⟨A', eA, x0, x1⟩ := (HS.out.below HJB.out) o false (mg x) (by unfold VL; rw [List.getElem?_map, hx]; rfl)
      cases eA
      have hsm : (rwF n1 (smF (owL Ws) (i + 1)))[i + 1]? = some (false, mg D) := by
        rw [rwF_at _ (by have := HN1.out; omega)]
        unfold smF
        rw [if_pos (Nat.le_refl _), hD]
      obtain ⟨s0, s1⟩ := inV_at9 _ _ _ _ hsm
      have HSM := Lib.hid (And.intro s0 s1)
      have HX01 := Lib.hid (And.intro x0 x1)
      have HOO := Lib.hid ho
      clear hx hxb hdb hD hsm s0 s1 x0 x1 ho e1
      go_wp2_with fail
      refine wp_region_mix [.q [0, 1, 2, 3, 4, 5, 6, 7, 8, 9, 10, 11, 12, 13], .r 14] [15, 16] (by kernel_rfl) (by kernel_rfl) (by intro d v c a w h; cases d <;> exact h) ?_
      intro X0 hb hz
      have HJP0 := Lib.hid (HJP.out.below hb)
      have HJO0 := Lib.hid (HJO.out.below hb)
      have HJB0 := Lib.hid (bstep HJB.out hb)
      have x0 := (hb.cell (World.block_lt_of_cell? _ _ HX01.out.1)).trans HX01.out.1
      have x1 := (hb.cell (World.block_lt_of_cell? _ _ HX01.out.2)).trans HX01.out.2
      have q0 := HJP0.out.at _ _ HSM.out.1
      have q1 := HJP0.out.at _ _ HSM.out.2
      have g0 := HJO0.out.at i _ (natV_is HOO.out)
      refine wpMix_q ?_
      simp only [pickO, List.map_cons, List.map_nil, List.getElem?_toArray, List.getElem?_cons_succ, List.getElem?_cons_zero, Option.getD_some]
      haveI := cv_some X0
      have y0 := fun u : Cv X0 => (u.h.cell (World.block_lt_of_cell? _ _ x0)).trans x0
      have y1 := fun u : Cv X0 => (by rw [addr_next]; exact (u.h.cell (World.block_lt_of_cell? _ _ x1)).trans x1 : u.x.cell? ⟨(A.add (o * 2)).block, (A.add (o * 2)).off + 1, none⟩ = some (.string (mg x)))
      have y2 := fun u : Cv X0 => (u.h.cell (World.block_lt_of_cell? _ _ q0)).trans q0
      have y3 := fun u : Cv X0 => (u.h.cell (World.block_lt_of_cell? _ _ q1)).trans q1
      have y4 := fun u : Cv X0 => (u.h.cell (World.block_lt_of_cell? _ _ g0)).trans g0
      clear x0 x1 q0 q1 g0 hb hz
      iterate 14 (go_big_quiet_step (fail))
      refine wpQuiet_nil ?_
      clear this y0 y1 y2 y3 y4
      refine wpMix_r ?_
      simp only [pickO, List.map_cons, List.map_nil, List.getElem?_toArray, List.getElem?_cons_succ, List.getElem?_cons_zero, Option.getD_some]
      go_wp2_with fail
      refine (HADD.out X0).mono ?_
      rintro e w4 ⟨rfl, hb4⟩
      go_wp2_with fail
      refine mixQ_ok hb4 ?_
      have hp4 := HJP0.out.below hb4
      have HJO4 := Lib.hid (HJO0.out.below hb4)
      have HJB4 := Lib.hid (bstep HJB0.out hb4)
      have hlen : (inV (rwF n1 (smF (owL Ws) (i + 1)))).length = n1 * 2 := by rw [inV_len, rwF_len]
      have z0 := hp4.z (i * 2) (by rw [hlen]; omega)
      have z1 := hp4.z (i * 2 + 1) (by rw [hlen]; omega)
      have hold : (rwF n1 (smF (owL Ws) (i + 1)))[i]? = some (false, mg 0) := by
        rw [rwF_at _ (by have := HN1.out; omega)]
        unfold smF
        rw [if_neg (by omega)]
      obtain ⟨a0, a1⟩ := inV_at9 _ _ _ _ hold
      have t0 := hp4.at _ _ a0
      have t1 := hp4.at _ _ a1
      have HNX := Lib.hid (show BC ((w4.setCell ⟨S, i * 2, none⟩ (.bool false)).setCell ⟨S, i * 2 + 1, none⟩ (.string (mg (D + x)))) S (inV (rwF n1 (smF (owL Ws) i))) from by
        have h := (hp4.set (i * 2) (.bool false) (by rw [hlen]; omega)).set (i * 2 + 1) (.string (mg (D + x))) (by rw [List.length_set, hlen]; omega)
        rw [inV_set9 _ _ _ _ (by rw [rwF_len]; omega)] at h
        rw [← HDS.out] at h
        have hs := smF_step (owL Ws) hin
        rw [HN1.out] at hs
        rw [hs] at h
        rw [HDS.out] at h
        exact h)
      have HNO := Lib.hid ((HJO4.out.other (i * 2) (.bool false) (c := S) (by have := HGL.out.1; omega)).other (i * 2 + 1) (.string (mg (D + x))) (c := S) (by have := HGL.out.1; omega))
      have HNB := Lib.hid ((HJB4.out.setCell (p := ⟨S, i * 2, none⟩) HGL.out.2 (.bool false)).setCell (p := ⟨S, i * 2 + 1, none⟩) HGL.out.2 (.string (mg (D + x))))
      clear hb4 hp4 hlen a0 a1 hold
      refine wpMix_nil ?_
      simp only [pickO, List.map_cons, List.map_nil, List.getElem?_toArray, List.getElem?_cons_succ, List.getElem?_cons_zero, Option.getD_some]
      go_wp2_with fail
      go_roundg (i + 1)
      case measure => have := HJG.out; omega
      case rel => exact ⟨i, by go_num, by omega, by omega, HNX.out, HNO.out, HNB.out⟩
end Go.Proofs.Gv

namespace Go.Proofs.Gv
open Go Go.RowKit Go.Maps

set_option maxRecDepth 100000 in
set_option maxHeartbeats 1600000 in
theorem rnone39_any (w : World) : Calls Tryz.prog 49 #[] w fun e w' => e = .returned (oV none) ∧ Below w.heap.size w w' := by
  have hb1 : Below w.heap.size w (w.alloc (.cells #[.bool false, .string ⟨#[]⟩] 29)) := (Below.refl _ _).alloc (Nat.le_refl _) _
  have bR := BC.new w w.heap.size #[.bool false, .string ⟨#[]⟩] 29 rfl
  obtain ⟨p, hp⟩ : ∃ p, w.heap.size = p := ⟨_, rfl⟩
  obtain ⟨X, hX⟩ : ∃ X, w.alloc (.cells #[.bool false, .string ⟨#[]⟩] 29) = X := ⟨_, rfl⟩
  rw [hX] at hb1 bR
  rw [hp] at bR
  have HBX := Lib.hid hb1
  have HBR := Lib.hid bR
  have HOF := Lib.hid (show Calls Tryz.prog 62 #[.int .i64 (-1)] X fun e w' => e = .returned (.agg #[.bool (sgn (-1)), .string (mg (-1 : Int).natAbs)]) ∧ Below X.heap.size X w' from rOf_any (-1) X (by omega) (by omega))
  clear hb1 bR
  go_enter Tryz.func49, Tryz.ntmps49
  go_wp2_with fail
  refine HOF.out.mono ?_
  rintro e w1 ⟨rfl, hb⟩
  have b1 := HBR.out.below hb
  have HB := Lib.hid (bstep HBX.out hb)
  have t0 := b1.at 0 _ rfl
  have t1 := b1.at 1 _ rfl
  have z0 := b1.z 0 (by simp)
  have z1 := b1.z 1 (by simp)
  have e1 : sgn (-1) = true := by decide
  have e2 : (-1 : Int).natAbs = 1 := rfl
  rw [e1, e2]
  have bS := b1.set2 0 1 (.bool true) (.string (mg 1)) (by simp) (by simp)
  have s0 := bS.at 0 _ rfl
  have s1 := bS.at 1 _ rfl
  have HBY := Lib.hid ((HB.out.setCell (p := ⟨p, 0, none⟩) (by show w.heap.size ≤ p; omega) (.bool true)).setCell (p := ⟨p, 1, none⟩) (by show w.heap.size ≤ p; omega) (.string (mg 1)))
  clear hb b1 bS e1 e2
  go_wp2
  refine bodyPost_ret (v := .agg #[.bool true, .string (mg 1)]) (by simp [results, Tryz.results49, go_sem, s0, s1]) rfl ?_
  exact ⟨rfl, HBY.out⟩
set_option maxRecDepth 100000 in
set_option maxHeartbeats 4000000 in
theorem rchoice_any (n s g k i p r N : Nat) (O : List Nat) (w : World) (hn : n ≤ 12) (hk : k ≤ n) (hp : p ≤ k) (hi : i + p ≤ n) (hN : N ≤ 1000)
    (hg : RowT w g O n r) (hs : SumT w s O n) (hO : O.sum < 2 ^ N) (hT : ∀ k i x, tb O n r k i = some x → x < 2 ^ N) :
    Calls Tryz.prog 50 #[.slice (some ⟨s, 0, none⟩) (n + 1) (n + 1), .slice (some ⟨g, 0, none⟩) ((n + 1) * (n + 1)) ((n + 1) * (n + 1)), .int .i64 n, .int .i64 k, .int .i64 i, .int .i64 p] w fun e w' => e = .returned (oV (plc O n r k i p)) ∧ Below w.heap.size w w' := by
  obtain ⟨n1, hn1⟩ : ∃ x, n + 1 = x := ⟨_, rfl⟩
  obtain ⟨NN, hNN⟩ : ∃ x, (n + 1) * (n + 1) = x := ⟨_, rfl⟩
  obtain ⟨q, hq⟩ : ∃ x, k - p = x := ⟨_, rfl⟩
  obtain ⟨q2, hq2⟩ : ∃ x, 2 * q = x := ⟨_, rfl⟩
  obtain ⟨mm, hmm⟩ : ∃ x, min q2 n = x := ⟨_, rfl⟩
  obtain ⟨ip, hip⟩ : ∃ x, i + p = x := ⟨_, rfl⟩
  have hqI : (k : Int) - (p : Int) = (q : Int) := by omega
  have hq2I : 2 * (q : Int) = (q2 : Int) := by omega
  have hmmI : min (q2 : Int) (n : Int) = (mm : Int) := by omega
  have hipI : (i : Int) + (p : Int) = (ip : Int) := by omega
  have hq20 : q ≤ 12 := by omega
  have hq21 : q2 ≤ 24 := by omega
  have hip12 : ip ≤ 12 := by omega
  have hipn : (ip : Int) < (n1 : Int) := by omega
  have HPL := Lib.hid (show plc O n r k i p = (tb O n r mm ip).map ((O.drop ip).sum + ·) from by unfold plc; rw [hip, ← hmm, ← hq2, ← hq])
  obtain ⟨md, hmd⟩ : ∃ x, mm * (n + 1) = x := ⟨_, rfl⟩
  obtain ⟨mi, hmi⟩ : ∃ x, md + i = x := ⟨_, rfl⟩
  obtain ⟨mp, hmp⟩ : ∃ x, mi + p = x := ⟨_, rfl⟩
  have hn1I : (n : Int) + 1 = (n1 : Int) := by omega
  have hmdI : (mm : Int) * (n1 : Int) = (md : Int) := by rw [← hmd, ← hn1]; simp
  have hmiI : (md : Int) + (i : Int) = (mi : Int) := by omega
  have hmpI : (mi : Int) + (p : Int) = (mp : Int) := by omega
  have hmm12 : mm ≤ 12 := by omega
  have hmd156 : md ≤ 156 := by rw [← hmd]; exact Nat.mul_le_mul hmm12 (show n + 1 ≤ 13 by omega)
  have hlt := plc_le (n := n) (k := mm) (i := ip) (by omega) (by omega)
  have hmpN : (mp : Int) < (NN : Int) := by rw [← hNN]; rw [hmd] at hlt; omega
  have HRG := Lib.hid (fun W (h : Below w.heap.size w W) => by
    have h2 := (hg.below h) mm ip (by omega) (by omega)
    rw [hmd, show md + ip = mp by omega] at h2
    exact h2)
  have HSM := Lib.hid (fun W (h : Below w.heap.size w W) => (hs.below h) ip (by omega))
  have hsl : (O.drop ip).sum < 2 ^ N := Nat.lt_of_le_of_lt (by
    have := List.take_append_drop ip O
    have h2 := congrArg List.sum this
    rw [List.sum_append] at h2
    omega) hO
  have HTX := Lib.hid (hT mm ip)
  obtain ⟨SS, hSS⟩ : ∃ x, (O.drop ip).sum = x := ⟨_, rfl⟩
  obtain ⟨V, hV⟩ : ∃ x, tb O n r mm ip = x := ⟨_, rfl⟩
  rw [hV] at HRG HTX HPL
  rw [hSS] at HSM hsl HPL
  have HSL := Lib.hid hsl
  rw [hNN, hn1]
  have bR := BC.new w w.heap.size #[.bool false, .string ⟨#[]⟩] 29 rfl
  have hb2 : Below w.heap.size w (w.alloc (.cells #[.bool false, .string ⟨#[]⟩] 29)) := (Below.refl _ _).alloc (Nat.le_refl _) _
  obtain ⟨P, hP⟩ : ∃ P, w.heap.size = P := ⟨_, rfl⟩
  have HP := Lib.hid hP
  have HB2 := Lib.hid hb2
  obtain ⟨w3, hw3⟩ : ∃ X, w.alloc (.cells #[.bool false, .string ⟨#[]⟩] 29) = X := ⟨_, rfl⟩
  rw [hw3] at bR HB2
  rw [hP] at bR
  have HBR := Lib.hid bR
  obtain ⟨c0, c1⟩ := HRG.out w3 HB2.out
  clear hn1 hq hq2 hmm hip hg hs hO hT hSS hV bR hb2 hsl hNN hmd hmi hmp hlt
  have hb3 : Below w3.heap.size w3 w3 := Below.refl _ _
  cases V with
  | none =>
    unfold oB at c0
    unfold oS at c1
    simp only at c0 c1
    go_enter Tryz.func50, Tryz.ntmps50
    have h2 : Below w3.heap.size w3 (w3.alloc (.cells #[.bool true, .string (mg 1)] 29)) := (Below.refl _ _).alloc (Nat.le_refl _) _
    have hst := hb3.trans (h2.mono hb3.size)
    have HBR3 := Lib.hid (HBR.out.below hst)
    have HB3 := Lib.hid (bstep HB2.out hst)
    have bT := Lib.hid (BC.new w3 w3.heap.size #[.bool true, .string (mg 1)] 29 rfl)
    obtain ⟨Q, hQ⟩ : ∃ q, w3.heap.size = q := ⟨_, rfl⟩
    rw [hQ] at bT
    obtain ⟨X3, hX3⟩ : ∃ X, w3.alloc (.cells #[.bool true, .string (mg 1)] 29) = X := ⟨_, rfl⟩
    rw [hX3] at HBR3 HB3 bT
    have t0 := bT.out.at 0 _ rfl
    have HNO := Lib.hid (rnone39_any X3)
    clear hb3 h2 hst
    go_wp2_with fail
    refine HNO.out.mono ?_
    rintro e w4 ⟨rfl, hb4⟩
    have bR4 := HBR3.out.below hb4
    have HB4 := Lib.hid (bstep HB3.out hb4)
    have z0 := bR4.z 0 (by simp)
    have z1 := bR4.z 1 (by simp)
    have y0 := bR4.at 0 _ rfl
    have y1 := bR4.at 1 _ rfl
    have bS := bR4.set2 0 1 (.bool true) (.string (mg 1)) (by simp) (by simp)
    have s0 := bS.at 0 _ rfl
    have s1 := bS.at 1 _ rfl
    have HBF := Lib.hid ((HB4.out.setCell (p := ⟨P, 0, none⟩) (by have := HP.out; show w.heap.size ≤ P; omega) (.bool true)).setCell (p := ⟨P, 1, none⟩) (by have := HP.out; show w.heap.size ≤ P; omega) (.string (mg 1)))
    clear hb4 bR4 bS t0
    unfold oV oB oS
    go_wp2
    refine bodyPost_ret (v := .agg #[.bool true, .string (mg 1)]) (by simp [results, Tryz.results50, go_sem, s0, s1]) rfl ?_
    rw [HPL.out]
    exact ⟨rfl, HBF.out⟩
  | some x =>
    unfold oB at c0
    unfold oS at c1
    simp only at c0 c1
    have hx := HTX.out x rfl
    go_enter Tryz.func50, Tryz.ntmps50
    have h2 : Below w3.heap.size w3 (w3.alloc (.cells #[.bool false, .string (mg x)] 29)) := (Below.refl _ _).alloc (Nat.le_refl _) _
    have hst := hb3.trans (h2.mono hb3.size)
    have HBR3 := Lib.hid (HBR.out.below hst)
    have HB3 := Lib.hid (bstep HB2.out hst)
    have bT := Lib.hid (BC.new w3 w3.heap.size #[.bool false, .string (mg x)] 29 rfl)
    obtain ⟨Q, hQ⟩ : ∃ q, w3.heap.size = q := ⟨_, rfl⟩
    rw [hQ] at bT
    obtain ⟨X3, hX3⟩ : ∃ X, w3.alloc (.cells #[.bool false, .string (mg x)] 29) = X := ⟨_, rfl⟩
    rw [hX3] at HBR3 HB3 bT
    have t0 := bT.out.at 0 _ rfl
    obtain ⟨e0, e1⟩ := HSM.out X3 HB3.out
    have HAD := Lib.hid (fun Y => rAddN (x := SS) (d := x) N N HSL.out hx (by omega) (by omega) Y)
    clear hb3 h2 hst hx
    go_wp2_with fail
    refine wp_region_front 8 zvI (by kernel_rfl) shI (by kernel_rfl) (by kernel_rfl) (zvI_alloc _ (by kernel_rfl)) (shI_store _ (by kernel_rfl)) ?_
    intro mk BW hm1 hm2 hBW
    haveI := clm_some mk BW
    have fq1 := fun u : Clm mk BW => u.cellC hm1 hBW e0
    have fq2 := fun u : Clm mk BW => u.cellC hm1 hBW e1
    have fq3 := fun u : Clm mk BW => u.cellC hm1 hBW (bT.out.at 0 _ rfl)
    have fq4 := fun u : Clm mk BW => u.cellC hm1 hBW (bT.out.at 1 _ rfl)
    simp only [frontOf, unmade, List.take_succ_cons, List.take_zero, List.map_cons, List.map_nil]
    iterate 7 (go_big_quiet_step (fail))
    go_big_quiet_step ((go_at_call 63; exact quiet_clm hm2 HAD.out _))
    refine wpQuiet_nil ?_
    refine ⟨List.forall_mem_nil _, ?_⟩
    intro γ w7 hB7 hF
    clear hF hBW this hm1 hm2 fq1 fq2 fq3 fq4
    clear BW mk
    simp only [madesFrom, Facts, patch, List.take_succ_cons, List.take_zero, List.drop_succ_cons, List.drop_zero]
    clear γ
    have bR4 := HBR3.out.below hB7
    have HB4 := Lib.hid (bstep HB3.out hB7)
    have z0 := bR4.z 0 (by simp)
    have z1 := bR4.z 1 (by simp)
    have y0 := bR4.at 0 _ rfl
    have y1 := bR4.at 1 _ rfl
    have bS := bR4.set2 0 1 (.bool false) (.string (mg (SS + x))) (by simp) (by simp)
    have s0 := bS.at 0 _ rfl
    have s1 := bS.at 1 _ rfl
    have HBF := Lib.hid ((HB4.out.setCell (p := ⟨P, 0, none⟩) (by have := HP.out; show w.heap.size ≤ P; omega) (.bool false)).setCell (p := ⟨P, 1, none⟩) (by have := HP.out; show w.heap.size ≤ P; omega) (.string (mg (SS + x))))
    clear hB7 bR4 bS t0 e0 e1
    go_wp2
    refine bodyPost_ret (v := .agg #[.bool false, .string (mg (SS + x))]) (by simp [results, Tryz.results50, go_sem, s0, s1]) rfl ?_
    rw [HPL.out]
    exact ⟨rfl, HBF.out⟩
end Go.Proofs.Gv
