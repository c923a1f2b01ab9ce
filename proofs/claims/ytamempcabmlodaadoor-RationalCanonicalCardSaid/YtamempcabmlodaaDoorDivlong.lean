/- integer.divide, the long way. -/
import Derived.Test.YtamempcabmlodaaDoorDivround
set_option linter.unusedSimpArgs false
set_option linter.unusedVariables false
namespace Go.Proofs.Gv
open Go Go.RowKit

set_option maxRecDepth 100000 in
set_option maxHeartbeats 4000000 in
theorem divide_long (A A' : Option Addr) (c c' x y : Nat) (w : World) (hx : Nt w w.heap.size A c x) (hy : Nt w w.heap.size A' c' y) (hn : nlen x ≤ 10000000) (hlt : ¬ x < y) (h2 : 2 ≤ nlen y) :
    Calls Tryd.prog 62 #[.slice A (nlen x) c, .slice A' (nlen y) c'] w (RetDiv w (x / y) (x % y)) := by
  obtain ⟨g, rfl, hg, hcell⟩ := hy.rd (by omega)
  have hc0 := hcell (nlen y - 1) (by omega)
  have hge : 0 ≤ cmpN x y := by unfold cmpN; rw [if_neg hlt]; split <;> omega
  have Hx := Lib.hid hx
  have Hy := Lib.hid hy
  have hneg : ¬ cmpN x y < 0 := by omega
  have h1 : ((nlen y : Int) == 1) = false := by rw [beq_eq_false_iff_ne]; omega
  have hd := D_lt' y (nlen y - 1)
  have hny : nlen y ≤ nlen x := nlen_mono (by omega)
  clear hx hy hcell
  go_enter Tryd.func62, Tryd.ntmps62
  go_wp2_with fail
  refine (compare_any A _ c c' x y _ Hx.out Hy.out).mono ?_
  rintro e w' ⟨rfl, n, rfl⟩
  have Hb0 : Hid (Below w.heap.size w (w.drewN n)) := Below.dr (Dr.of w n)
  have Hx1 := Lib.hid (Hx.out.below Hb0.out)
  have Hy1 := Lib.hid (Hy.out.below Hb0.out)
  go_wp2_with fail
  refine (leading_any (D y (nlen y - 1)) _ hd).mono ?_
  rintro e w' ⟨rfl, rfl⟩
  have hlz := (lz_spec (d := D y (nlen y - 1)) (by have := (D_top (x := y) (by intro e; rw [e, nlen_zero] at h2; omega)).2; omega) hd)
  obtain ⟨hl1, hl2, hl3⟩ := hlz
  generalize hL : lz (D y (nlen y - 1)) = L at *
  clear hL
  go_upto_region 7 with fail
  go_cut [9, 10] (fun s9 s10 wx => ∃ gv : Nat, s9 = .slice (some ⟨w.heap.size, 0, none⟩) (nlen x + 1) (nlen x + 1) ∧ s10 = .slice (some ⟨gv, 0, none⟩) (nlen y) (nlen y + 1) ∧ w.heap.size < gv ∧
    wx.rowIs w.heap.size 67 (nlen x + 1) (u32s (D (x * 2 ^ L))) ∧ wx.rowIs gv 67 (nlen y + 1) (u32s (D (y * 2 ^ L))) ∧ Below w.heap.size w wx)
  case first =>
    go_region_with (first
      | (go_at_call_of 83 (Value.slice A (nlen x) c); go_loud (refine (shift_any A c x L _ (by exact Nt.later Hx.out (Below.dr (Dr.of w _)) (Dr.self _)) hn hl1).mono ?_); rintro e w1 ⟨rfl, hr1, hb1⟩)
      | (go_at_call_of 83 (Value.slice (some ⟨g, 0, none⟩) (nlen y) c'); go_loud (refine (shift_any _ c' y L _ (by first | exact Nt.later Hy.out ((Below.dr (Dr.of w _)).trans hb1) (Dr.self _) | exact Nt.later Hy.out ((Below.dr (Dr.of w _)).trans hb1) (Dr.step _)) (by omega) hl1).mono ?_); rintro e w2 ⟨rfl, hr2, hb2⟩))
    all_goals (go_wp2_with fail; go_meet)
    exact ⟨w1.heap.size, rfl, rfl, hr1.lt, hr1.of_block (hb2.block _ hr1.lt), hr2, ((Below.dr (Dr.of w _)).trans hb1).trans (hb2.mono (by have := hb1.size; exact this))⟩
  case rest =>
    clear Hx1 Hy1 Hb0 hc0 hg hge hneg Hx Hy
    obtain ⟨gv, rfl, rfl, hgv, hru, hrv, hb⟩ := hcut
    obtain ⟨hY1, hY2⟩ := norm_Y h2 hl2 hl3
    have hX2 := norm_X (x := x) (y := y) L (by omega) hny
    have hYpos : 0 < y * 2 ^ L := Nat.zero_lt_of_lt hX2
    have hX1 : x * 2 ^ L < B32 ^ (nlen x + 1) := by
      rw [Nat.pow_succ]
      have a := Nat.mul_le_mul_left (B32 ^ nlen x) (show 2 ^ L ≤ B32 from Nat.le_trans (Nat.pow_le_pow_right (by decide) (Nat.le_of_lt hl1)) (by decide))
      exact Nat.lt_of_lt_of_le (Nat.mul_lt_mul_of_pos_right (lt_pow_nlen x) (Nat.pow_pos (by decide))) a
    have Hdiv : Hid (x * 2 ^ L / (y * 2 ^ L) = x / y) := Nat.mul_div_mul_right _ _ (Nat.pow_pos (by decide))
    have Hmod : Hid (x * 2 ^ L % (y * 2 ^ L) = x % y * 2 ^ L) := Nat.mul_mod_mul_right _ _ _
    have Hrl : Hid (x % y < B32 ^ nlen y) := Nat.lt_of_lt_of_le (Nat.mod_lt _ (by
      rcases Nat.eq_zero_or_pos y with e | e
      · subst e; rw [nlen_zero] at h2; omega
      · exact e)) (Nat.le_of_lt (lt_pow_nlen y))
    have Hql : Hid (x / y < B32 ^ (nlen x + 1 - nlen y)) := by
      have h5 := lt_pow_nlen x
      have h6 : B32 ^ (nlen y - 1) ≤ y := lt_nlen_iff.1 (by omega)
      refine (Nat.div_lt_iff_lt_mul (Nat.lt_of_lt_of_le (pow_pos _) h6)).2 ?_
      have h7 := Nat.mul_le_mul_left (B32 ^ (nlen x + 1 - nlen y)) h6
      rw [← Nat.pow_add, show nlen x + 1 - nlen y + (nlen y - 1) = nlen x by omega] at h7
      omega
    have HY1 := Lib.hid hY1
    have HX1 := Lib.hid hX1
    have HX2 := Lib.hid hX2
    clear hl2 hl3 hlt hd hY1 hX1 hX2
    obtain ⟨X, hX⟩ : ∃ X, x * 2 ^ L = X := ⟨_, rfl⟩
    obtain ⟨Y, hY⟩ : ∃ Y, y * 2 ^ L = Y := ⟨_, rfl⟩
    rw [hX] at hru HX1 HX2 Hdiv Hmod
    rw [hY] at hrv HY1 HX2 Hdiv Hmod hY2 hYpos
    have HXe := Lib.hid hX
    clear hX hY
    have hmk := mk_nat ((nlen x : Int) + 1 - nlen y) (nlen x + 1 - nlen y) (by omega) (by omega)
    have Hmk2 := Lib.hid (mk_nat (nlen y) (nlen y) rfl (by omega))
    go_wp2
    clear hmk
    obtain ⟨W0, hW0⟩ : ∃ W0, wc.alloc (.cells (madeCells #[.int .u32 0] (nlen x + 1 - nlen y)) 67) = W0 := ⟨_, rfl⟩
    have hm0 : DivMem w W0 gv wc.heap.size (nlen x + 1) (nlen y) (nlen x + 1 - nlen y) (D X) (fun _ => 0) Y := by
      rw [← hW0]
      exact ⟨hru.alloc _, hrv.alloc _, made_row wc _, hb.alloc hb.size _, hgv, hrv.lt⟩
    obtain ⟨gq, hgq⟩ : ∃ gq, gq = wc.heap.size := ⟨_, rfl⟩
    rw [hW0, ← hgq]
    rw [← hgq] at hm0
    clear hru hrv hb hgv hW0 hgq
    go_loopg [13] (nlen x + 1 - nlen y) (fun jj s13 wr => jj ≤ nlen x + 1 - nlen y ∧ s13 = .int .i64 ((jj : Int) - 1) ∧
      DivMem w wr gv gq (nlen x + 1) (nlen y) (nlen x + 1 - nlen y) (D (num X jj (sr X Y jj))) (fun i => if jj ≤ i then D (X / Y) i else 0) Y)
    case atStart =>
      refine ⟨Nat.le_refl _, by rw [show ((nlen x + 1 - nlen y : Nat) : Int) = (nlen x : Int) + 1 - nlen y by omega], ?_⟩
      have hs : sr X Y (nlen x + 1 - nlen y) = X / B32 ^ (nlen x + 1 - nlen y) := Nat.mod_eq_of_lt HX2.out
      rw [hs, num_top rfl]
      exact ⟨hm0.u, hm0.v, hm0.q.congr (fun i hi => by unfold u32s; dsimp only; rw [if_neg (by omega)]), hm0.b, hm0.l1, hm0.l2⟩
    case round =>
      obtain ⟨hjj, rfl, hm⟩ := hrel
      rcases gk with _ | k
      · have hmk2 := Hmk2.out
        go_wp2_with fail
        clear hmk2
        have hz : sr X Y 0 = x % y * 2 ^ L := by rw [← Hmod.out]; simp [sr]
        rw [num_zero, hz] at hm
        obtain ⟨z, hz1⟩ : ∃ z, x % y = z := ⟨_, rfl⟩
        rw [hz1] at hm Hrl
        obtain ⟨gr, hgr⟩ : ∃ gr, wr.heap.size = gr := ⟨_, rfl⟩
        obtain ⟨wt, hwt⟩ : ∃ wt, wr.alloc (.cells (madeCells #[.int .u32 0] (nlen y)) 67) = wt := ⟨_, rfl⟩
        have hT : TailMem w wt gq gr (nlen x + 1) (nlen y) (nlen x + 1 - nlen y) (D (z * 2 ^ L)) (D (X / Y)) (fun j => if j < 0 then D z j else 0) := by
          rw [← hwt, ← hgr]
          exact ⟨hm.u.alloc _, (hm.q.congr (fun i _ => by unfold u32s; dsimp only; rw [if_pos (by omega)])).alloc _, (made_row wr _).congr (fun i _ => by unfold u32s; dsimp only; rw [if_neg (by omega)]), hm.b.alloc hm.b.size _, by have := hm.l1; have := hm.l2; omega, hm.q.lt⟩
        rw [hwt, hgr]
        have Hz1 := Lib.hid hz1
        clear hm hz hz1 hwt hgr
        go_loopg [262] (nlen y) (fun gg s262 wx => ∃ t : Nat, t ≤ nlen y ∧ gg = nlen y - t ∧ s262 = .int .i64 (t : Nat) ∧ TailMem w wx gq gr (nlen x + 1) (nlen y) (nlen x + 1 - nlen y) (D (z * 2 ^ L)) (D (X / Y)) (fun j => if j < t then D z j else 0))
        case atStart => exact ⟨0, Nat.zero_le _, rfl, rfl, hT⟩
        case round =>
          obtain ⟨t, ht, hgk, rfl, hmt⟩ := hrel
          have Hgk := Lib.hid hgk
          clear hgk
          by_cases hlt : t < nlen y
          · have hc1 : wr.cell? ⟨w.heap.size, t, none⟩ = some (.int .u32 (D (z * 2 ^ L) t : Nat)) := hmt.u.cell (i := t) (by omega)
            have hc2 : wr.cell? ⟨w.heap.size, t + 1, none⟩ = some (.int .u32 (D (z * 2 ^ L) (t + 1) : Nat)) := hmt.u.cell (i := t + 1) (by omega)
            have hrc := hmt.r.cell (i := t) (by omega)
            have hrf := hmt.r.frozen t
            have hne : gr ≠ w.heap.size := by have := hmt.l1; have := hmt.l2; omega
            have hb1 := D_lt' (z * 2 ^ L) t
            have hb2 := D_lt' (z * 2 ^ L) (t + 1)
            have Hm := Lib.hid hmt
            clear hmt
            by_cases hL0 : 0 < L
            · go_wp2
              go_region
              all_goals go_wp2
              go_roundg (nlen y - (t + 1))
              case measure => rw [Hgk.out]; omega
              case rel =>
                have hmt := Hm.out
                exact ⟨t + 1, by omega, rfl, by go_num, (hmt.setR2 t _ _ (row_again hmt.r (unshift_or hl1))).dr (Dr.step _)⟩
            · go_wp2
              go_roundg (nlen y - (t + 1))
              case measure => rw [Hgk.out]; omega
              case rel =>
                have hmt := Hm.out
                exact ⟨t + 1, by omega, rfl, by go_num, hmt.setR t _ (row_step hmt.r (unshift_zero hL0))⟩
          · obtain rfl : nlen y = t := by omega
            have Hm := Lib.hid hmt
            clear hmt
            rw [← Hdiv.out] at Hql
            have Hr := Lib.hid (row_all Hm.out.r)
            go_wp2_with fail
            refine (trim_row Hm.out.q Hql.out (by omega)).mono ?_
            rintro e w3 ⟨rfl, rfl⟩
            go_wp2_with fail
            refine (trim_row Hr.out Hrl.out (by omega)).mono ?_
            rintro e w3 ⟨rfl, rfl⟩
            go_wp2
            go_ret2
            rw [← Hdiv.out, Hz1.out]
            exact ⟨_, _, _, _, rfl, Nt.of_digits Hm.out.q Hql.out (by omega), Nt.of_digits Hr.out Hrl.out (by omega), Hm.out.b⟩
      · rw [show (((k + 1 : Nat) : Int) - 1) = (k : Nat) by omega]
        refine div_round h2 hny hn (by omega) HY1.out hY2 hm ?_
        intros
        go_step
        go_roundg k
        case measure => omega
        case rel => exact ⟨by omega, rfl, by assumption⟩
end Go.Proofs.Gv
