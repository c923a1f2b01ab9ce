import Derived.Test.YtfhncfphphieiaaGreatDivround
set_option maxHeartbeats 4000000
set_option maxRecDepth 100000
set_option linter.unusedSimpArgs false
set_option linter.unusedVariables false
namespace Go.Proofs.Gv
open Go Go.RowKit
theorem divide_long (A A' : Option Addr) (c c' x y : Nat) (w : World) (hx : Nt w w.heap.size A c x) (hy : Nt w w.heap.size A' c' y) (hn : nlen x ≤ 10000000) (hlt : ¬ x < y) (h2 : 2 ≤ nlen y) :
  Calls Tryz.prog 116 #[.slice A (nlen x) c, .slice A' (nlen y) c'] w (RetDiv w (x / y) (x % y)) := by
 obtain ⟨g, rfl, hg, hcell⟩ := hy.rd (by omega)
 have hc0 := hcell (nlen y - 1) (by omega)
 have hge : 0 ≤ cmpN x y := by unfold cmpN; rw [if_neg hlt]; split <;> omega
 have Hx := Lib.hid hx
 have Hy := Lib.hid hy
 have hneg : ¬ cmpN x y < 0 := by omega
 have h1 : ((nlen y : Int) == 1) = false := by rw [beq_eq_false_iff_ne]; omega
 have hd := D_lt' y (nlen y - 1)
 have hny : nlen y ≤ nlen x := nlen_mono (by omega)
 clear hx hy hcell
 go_enter Tryz.func116, Tryz.ntmps116
 go_wp2_with fail
 refine (compare_any A _ c c' x y _ Hx.out Hy.out).mono ?_
 rintro e w' ⟨rfl, n, rfl⟩
 have Hb0 : Hid (Below w.heap.size w (w.drewN n)) := Below.dr (Dr.of w n)
 have Hx1 := Lib.hid (Hx.out.below Hb0.out)
 have Hy1 := Lib.hid (Hy.out.below Hb0.out)
 go_wp2_with fail
 refine (leading_any (D y (nlen y - 1)) _ hd).mono ?_
 rintro e w' ⟨rfl, rfl⟩
 have hlz := (lz_spec (d := D y (nlen y - 1)) (by have := (D_top (x := y) (by intro e; rw [e, nlen_zero] at h2; omega)).2; omega) hd)
 obtain ⟨hl1, hl2, hl3⟩ := hlz
 generalize hL : lz (D y (nlen y - 1)) = L at *
 clear hL
 go_upto_region 7 with fail
 go_cut [9, 10] (fun s9 s10 wx => ∃ gv : Nat, s9 = .slice (some ⟨w.heap.size, 0, none⟩) (nlen x + 1) (nlen x + 1) ∧ s10 = .slice (some ⟨gv, 0, none⟩) (nlen y) (nlen y + 1) ∧ w.heap.size < gv ∧
  wx.rowIs w.heap.size 74 (nlen x + 1) (u32s (D (x * 2 ^ L))) ∧ wx.rowIs gv 74 (nlen y + 1) (u32s (D (y * 2 ^ L))) ∧ Below w.heap.size w wx)
 case first =>
  go_region_with (first
   | (go_at_call_of 128 (Value.slice A (nlen x) c); go_loud (refine (shift_any A c x L _ (by exact Nt.later Hx.out (Below.dr (Dr.of w _)) (Dr.self _)) hn hl1).mono ?_); rintro e w1 ⟨rfl, hr1, hb1⟩)
   | (go_at_call_of 128 (Value.slice (some ⟨g, 0, none⟩) (nlen y) c'); go_loud (refine (shift_any _ c' y L _ (by first | exact Nt.later Hy.out ((Below.dr (Dr.of w _)).trans hb1) (Dr.self _) | exact Nt.later Hy.out ((Below.dr (Dr.of w _)).trans hb1) (Dr.step _)) (by omega) hl1).mono ?_); rintro e w2 ⟨rfl, hr2, hb2⟩))
  all_goals (go_wp2_with fail; go_meet)
  exact ⟨w1.heap.size, rfl, rfl, hr1.lt, hr1.of_block (hb2.block _ hr1.lt), hr2, ((Below.dr (Dr.of w _)).trans hb1).trans (hb2.mono (by have := hb1.size; exact this))⟩
 case rest =>
  clear Hx1 Hy1 Hb0 hc0 hg hge hneg Hx Hy
  obtain ⟨gv, rfl, rfl, hgv, hru, hrv, hb⟩ := hcut
  obtain ⟨hY1, hY2⟩ := norm_Y h2 hl2 hl3
  have hX2 := norm_X (x := x) (y := y) L (by omega) hny
  have hYpos : 0 < y * 2 ^ L := Nat.zero_lt_of_lt hX2
  have hX1 : x * 2 ^ L < B32 ^ (nlen x + 1) := by
   rw [Nat.pow_succ]
   have a := Nat.mul_le_mul_left (B32 ^ nlen x) (show 2 ^ L ≤ B32 from Nat.le_trans (Nat.pow_le_pow_right (by decide) (Nat.le_of_lt hl1)) (by decide))
   exact Nat.lt_of_lt_of_le (Nat.mul_lt_mul_of_pos_right (lt_pow_nlen x) (Nat.pow_pos (by decide))) a
  have Hdiv : Hid (x * 2 ^ L / (y * 2 ^ L) = x / y) := Nat.mul_div_mul_right _ _ (Nat.pow_pos (by decide))
  have Hmod : Hid (x * 2 ^ L % (y * 2 ^ L) = x % y * 2 ^ L) := Nat.mul_mod_mul_right _ _ _
  have Hrl : Hid (x % y < B32 ^ nlen y) := Nat.lt_of_lt_of_le (Nat.mod_lt _ (by
   rcases Nat.eq_zero_or_pos y with e | e
   ·subst e; rw [nlen_zero] at h2; omega
   ·exact e)) (Nat.le_of_lt (lt_pow_nlen y))
  have Hql : Hid (x / y < B32 ^ (nlen x + 1 - nlen y)) := by
   have h5 := lt_pow_nlen x
   have h6 : B32 ^ (nlen y - 1) ≤ y := lt_nlen_iff.1 (by omega)
   refine (Nat.div_lt_iff_lt_mul (Nat.lt_of_lt_of_le (pow_pos _) h6)).2 ?_
   have h7 := Nat.mul_le_mul_left (B32 ^ (nlen x + 1 - nlen y)) h6
   rw [← Nat.pow_add, show nlen x + 1 - nlen y + (nlen y - 1) = nlen x by omega] at h7
   omega
  have HY1 := Lib.hid hY1
  have HX1 := Lib.hid hX1
  have HX2 := Lib.hid hX2
  clear hl2 hl3 hlt hd hY1 hX1 hX2
  obtain ⟨X, hX⟩ : ∃ X, x * 2 ^ L = X := ⟨_, rfl⟩
  obtain ⟨Y, hY⟩ : ∃ Y, y * 2 ^ L = Y := ⟨_, rfl⟩
  rw [hX] at hru HX1 HX2 Hdiv Hmod
  rw [hY] at hrv HY1 HX2 Hdiv Hmod hY2 hYpos
  have HXe := Lib.hid hX
  clear hX hY
  have hmk := mk_nat ((nlen x : Int) + 1 - nlen y) (nlen x + 1 - nlen y) (by omega) (by omega)
  have Hmk2 := Lib.hid (mk_nat (nlen y) (nlen y) rfl (by omega))
  go_wp2
  clear hmk
  obtain ⟨W0, hW0⟩ : ∃ W0, wc.alloc (.cells (madeCells #[.int .u32 0] (nlen x + 1 - nlen y)) 74) = W0 := ⟨_, rfl⟩
  have hm0 : DivMem w W0 gv wc.heap.size (nlen x + 1) (nlen y) (nlen x + 1 - nlen y) (D X) (fun _ => 0) Y := by
   rw [← hW0]
   exact ⟨hru.alloc _, hrv.alloc _, made_row wc _, hb.alloc hb.size _, hgv, hrv.lt⟩
  obtain ⟨gq, hgq⟩ : ∃ gq, gq = wc.heap.size := ⟨_, rfl⟩
  rw [hW0, ← hgq]
  rw [← hgq] at hm0
  clear hru hrv hb hgv hW0 hgq
  go_loopg [13] (nlen x + 1 - nlen y) (fun jj s13 wr => jj ≤ nlen x + 1 - nlen y ∧ s13 = .int .i64 ((jj : Int) - 1) ∧
   DivMem w wr gv gq (nlen x + 1) (nlen y) (nlen x + 1 - nlen y) (D (num X jj (sr X Y jj))) (fun i => if jj ≤ i then D (X / Y) i else 0) Y)
  case atStart =>
   refine ⟨Nat.le_refl _, by rw [show ((nlen x + 1 - nlen y : Nat) : Int) = (nlen x : Int) + 1 - nlen y by omega], ?_⟩
   have hs : sr X Y (nlen x + 1 - nlen y) = X / B32 ^ (nlen x + 1 - nlen y) := Nat.mod_eq_of_lt HX2.out
   rw [hs, num_top rfl]
   exact ⟨hm0.u, hm0.v, hm0.q.congr (fun i hi => by unfold u32s; dsimp only; rw [if_neg (by omega)]), hm0.b, hm0.l1, hm0.l2⟩
  case round =>
   obtain ⟨hjj, rfl, hm⟩ := hrel
   rcases gk with _ | k
   ·have hmk2 := Hmk2.out
    go_wp2_with fail
    clear hmk2
    have hz : sr X Y 0 = x % y * 2 ^ L := by rw [← Hmod.out]; simp [sr]
    rw [num_zero, hz] at hm
    obtain ⟨z, hz1⟩ : ∃ z, x % y = z := ⟨_, rfl⟩
    rw [hz1] at hm Hrl
    obtain ⟨gr, hgr⟩ : ∃ gr, wr.heap.size = gr := ⟨_, rfl⟩
    obtain ⟨wt, hwt⟩ : ∃ wt, wr.alloc (.cells (madeCells #[.int .u32 0] (nlen y)) 74) = wt := ⟨_, rfl⟩
    have hT : TailMem w wt gq gr (nlen x + 1) (nlen y) (nlen x + 1 - nlen y) (D (z * 2 ^ L)) (D (X / Y)) (fun j => if j < 0 then D z j else 0) := by
     rw [← hwt, ← hgr]
     exact ⟨hm.u.alloc _, (hm.q.congr (fun i _ => by unfold u32s; dsimp only; rw [if_pos (by omega)])).alloc _, (made_row wr _).congr (fun i _ => by unfold u32s; dsimp only; rw [if_neg (by omega)]), hm.b.alloc hm.b.size _, by have := hm.l1; have := hm.l2; omega, hm.q.lt⟩
    rw [hwt, hgr]
    have Hz1 := Lib.hid hz1
    clear hm hz hz1 hwt hgr
    go_loopg [262] (nlen y) (fun gg s262 wx => ∃ t : Nat, t ≤ nlen y ∧ gg = nlen y - t ∧ s262 = .int .i64 (t : Nat) ∧ TailMem w wx gq gr (nlen x + 1) (nlen y) (nlen x + 1 - nlen y) (D (z * 2 ^ L)) (D (X / Y)) (fun j => if j < t then D z j else 0))
    case atStart => exact ⟨0, Nat.zero_le _, rfl, rfl, hT⟩
    case round =>
     obtain ⟨t, ht, hgk, rfl, hmt⟩ := hrel
     have Hgk := Lib.hid hgk
     clear hgk
     by_cases hlt : t < nlen y
     ·have hc1 : wr.cell? ⟨w.heap.size, t, none⟩ = some (.int .u32 (D (z * 2 ^ L) t : Nat)) := hmt.u.cell (i := t) (by omega)
      have hc2 : wr.cell? ⟨w.heap.size, t + 1, none⟩ = some (.int .u32 (D (z * 2 ^ L) (t + 1) : Nat)) := hmt.u.cell (i := t + 1) (by omega)
      have hrc := hmt.r.cell (i := t) (by omega)
      have hrf := hmt.r.frozen t
      have hne : gr ≠ w.heap.size := by have := hmt.l1; have := hmt.l2; omega
      have hb1 := D_lt' (z * 2 ^ L) t
      have hb2 := D_lt' (z * 2 ^ L) (t + 1)
      have Hm := Lib.hid hmt
      clear hmt
      by_cases hL0 : 0 < L
      ·go_wp2
       go_region
       all_goals go_wp2
       go_roundg (nlen y - (t + 1))
       case measure => rw [Hgk.out]; omega
       case rel =>
        have hmt := Hm.out
        exact ⟨t + 1, by omega, rfl, by go_num, (hmt.setR2 t _ _ (row_again hmt.r (unshift_or hl1))).dr (Dr.step _)⟩
      ·go_wp2
       go_roundg (nlen y - (t + 1))
       case measure => rw [Hgk.out]; omega
       case rel =>
        have hmt := Hm.out
        exact ⟨t + 1, by omega, rfl, by go_num, hmt.setR t _ (row_step hmt.r (unshift_zero hL0))⟩
     ·obtain rfl : nlen y = t := by omega
      have Hm := Lib.hid hmt
      clear hmt
      rw [← Hdiv.out] at Hql
      have Hr := Lib.hid (row_all Hm.out.r)
      go_wp2_with fail
      refine (trim_row Hm.out.q Hql.out (by omega)).mono ?_
      rintro e w3 ⟨rfl, rfl⟩
      go_wp2_with fail
      refine (trim_row Hr.out Hrl.out (by omega)).mono ?_
      rintro e w3 ⟨rfl, rfl⟩
      go_wp2
      go_ret2
      rw [← Hdiv.out, Hz1.out]
      exact ⟨_, _, _, _, rfl, Nt.of_digits Hm.out.q Hql.out (by omega), Nt.of_digits Hr.out Hrl.out (by omega), Hm.out.b⟩
   ·rw [show (((k + 1 : Nat) : Int) - 1) = (k : Nat) by omega]
    refine div_round h2 hny hn (by omega) HY1.out hY2 hm ?_
    intros
    go_step
    go_roundg k
    case measure => omega
    case rel => exact ⟨by omega, rfl, by assumption⟩
theorem divide_any (A A' : Option Addr) (c c' x y : Nat) (w : World) (hx : Nt w w.heap.size A c x) (hy : Nt w w.heap.size A' c' y) (hn : nlen x ≤ 10000000) (h0 : 0 < y) :
  Calls Tryz.prog 116 #[.slice A (nlen x) c, .slice A' (nlen y) c'] w (RetDiv w (x / y) (x % y)) := by
 by_cases hlt : x < y
 ·have := divide_less A A' c c' x y w hx hy hlt
  rwa [Nat.div_eq_of_lt hlt, Nat.mod_eq_of_lt hlt]
 ·by_cases h1 : nlen y = 1
  ·exact divide_short A A' c c' x y w hx hy hn hlt h1
  ·have : nlen y ≠ 0 := mt nlen_eq_zero.1 (by omega)
   exact divide_long A A' c c' x y w hx hy hn hlt (by omega)
def DivSpec (a b q r : Int) : Prop := a = q * b + r ∧ ((0 ≤ r ∧ r < b) ∨ (b < r ∧ r ≤ 0))
theorem div_same {na nb : Bool} {x y : Nat} (h0 : 0 < y) (h : (na != nb) = false ∨ x % y = 0) :
  DivSpec (if na then -(x : Int) else x) (if nb then -(y : Int) else y) (if na != nb then -((x / y : Nat) : Int) else ((x / y : Nat) : Int)) (if nb then -((x % y : Nat) : Int) else ((x % y : Nat) : Int)) := by
 have e := Nat.div_add_mod x y
 have hl := Nat.mod_lt x h0
 have e2 : (x : Int) = y * (x / y : Nat) + (x % y : Nat) := by rw [← Int.natCast_mul]; omega
 generalize x / y = q at *
 generalize x % y = r at *
 have hc : (y : Int) * q = q * y := Int.mul_comm _ _
 unfold DivSpec
 rcases h with h | h
 ·have : na = nb := by simpa using h
  subst this
  cases na <;> simp [Int.neg_mul, Int.mul_neg] <;> omega
 ·subst h
  cases na <;> cases nb <;> simp [Int.neg_mul, Int.mul_neg] <;> omega
theorem div_other {na nb : Bool} {x y : Nat} (h0 : 0 < y) (h : (na != nb) = true) (h1 : x % y ≠ 0) :
  DivSpec (if na then -(x : Int) else x) (if nb then -(y : Int) else y) (if na != nb then -((x / y + 1 : Nat) : Int) else ((x / y + 1 : Nat) : Int)) (if nb then -((y - x % y : Nat) : Int) else ((y - x % y : Nat) : Int)) := by
 have e := Nat.div_add_mod x y
 have hl := Nat.mod_lt x h0
 have e2 : (x : Int) = y * (x / y : Nat) + (x % y : Nat) := by rw [← Int.natCast_mul]; omega
 generalize x / y = q at *
 generalize x % y = r at *
 have hc : (y : Int) * q = q * y := Int.mul_comm _ _
 have e3 : ((y - r : Nat) : Int) = y - r := by omega
 unfold DivSpec
 rw [e3]
 revert h
 cases na <;> cases nb <;> simp [Int.neg_mul, Int.mul_neg, Int.add_mul] <;> omega
theorem Own.stored4 {w W : World} {bs : List Obj} (h : Own w W bs) (n m : Nat) (hn : w.heap.size ≤ n) (hm : w.heap.size ≤ m) (a b c d : Value) :
  Below w.heap.size w ((((W.setCell ⟨n, 0, none⟩ a).setCell ⟨n, 1, none⟩ b).setCell ⟨m, 0, none⟩ c).setCell ⟨m, 1, none⟩ d) :=
 ((h.stored n hn a b).setCell (p := ⟨m, 0, none⟩) hm c).setCell (p := ⟨m, 1, none⟩) hm d
def RetQR (w : World) (a b : Int) (e : Ending) (w' : World) : Prop :=
 ∃ q r, e = .returned (.tuple #[.agg #[.bool (sgn q), .string (mg q.natAbs)], .agg #[.bool (sgn r), .string (mg r.natAbs)], .int .i64 0]) ∧ DivSpec a b q r ∧ Below w.heap.size w w'
theorem Div_any (na nb : Bool) (sa sb : ByteArray) (w : World) (ha : sa.size ≤ 15000000) (hb : sb.size ≤ 15000000) (h0 : 0 < bv sb.data.toList) :
  Calls Tryz.prog 104 #[.agg #[.bool na, .string sa], .agg #[.bool nb, .string sb]] w (RetQR w (iv na sa) (iv nb sb)) := by
 have L1 := nlen_bv (s := sa)
 have L2 := nlen_bv (s := sb)
 have ne1 : ¬ w.heap.size = w.heap.size + 1 + 1 := by omega
 have ne2 : ¬ w.heap.size + 1 + 1 = w.heap.size := by omega
 have ne3 : ¬ w.heap.size = w.heap.size + 1 + 1 + 1 := by omega
 have ne4 : ¬ w.heap.size + 1 + 1 + 1 = w.heap.size := by omega
 have ne5 : ¬ w.heap.size + 1 = w.heap.size + 1 + 1 + 1 := by omega
 have ne6 : ¬ w.heap.size + 1 + 1 + 1 = w.heap.size + 1 := by omega
 go_enter Tryz.func104, Tryz.ntmps104
 go_wp2
 obtain ⟨W, hW⟩ : ∃ W, (((w.alloc (.cells #[.bool na, .string sa] 36)).alloc (.cells #[.bool nb, .string sb] 36)).alloc (.cells #[.bool false, .string ⟨#[]⟩] 36)).alloc (.cells #[.bool false, .string ⟨#[]⟩] 36) = W := ⟨_, rfl⟩
 have HO := Lib.hid (Own.four w (.cells #[.bool na, .string sa] 36) (.cells #[.bool nb, .string sb] 36) (.cells #[.bool false, .string ⟨#[]⟩] 36) (.cells #[.bool false, .string ⟨#[]⟩] 36))
 rw [hW] at HO ⊢
 clear hW
 obtain ⟨a0, a1, a2, a3, a4⟩ := HO.out.blk 0 w.heap.size rfl rfl
 obtain ⟨b0, b1, b2, b3, b4⟩ := HO.out.blk 1 (w.heap.size + 1) rfl rfl
 go_region_held3 (fun w' => w'.cell? ⟨w.heap.size, 0, none⟩ = some (.bool na) ∧ w'.cell? ⟨w.heap.size, 1, none⟩ = some (.string sa) ∧ w'.cell? ⟨w.heap.size + 1, 0, none⟩ = some (.bool nb) ∧ w'.cell? ⟨w.heap.size + 1, 1, none⟩ = some (.string sb)) (go_keep) (first
  | (go_at_call_of 73 (Value.agg #[.bool na, .string sa]); refine (digits_any na sa _ (by omega)).mono ?_; rintro e w1 ⟨A, c, rfl, hn, hb⟩; have HO1 := Lib.hid (HO.out.next hb); obtain ⟨k0, k1, k2, k3, k4⟩ := HO1.out.blk 0 w.heap.size rfl rfl; obtain ⟨l0, l1, l2, l3, l4⟩ := HO1.out.blk 1 (w.heap.size + 1) rfl rfl; have Hn1 := Lib.hid hn; clear hb hn)
  | (go_at_call_of 73 (Value.agg #[.bool nb, .string sb]); refine (digits_any nb sb _ (by omega)).mono ?_; rintro e w2 ⟨A', c', rfl, hn, hb⟩; have HO2 := Lib.hid (HO1.out.next hb); obtain ⟨m0, m1, m2, m3, m4⟩ := HO2.out.blk 0 w.heap.size rfl rfl; obtain ⟨n0, n1, n2, n3, n4⟩ := HO2.out.blk 1 (w.heap.size + 1) rfl rfl; have Hn2 := Lib.hid hn; have Hn3 := Lib.hid (Hn1.out.next hb); clear hb hn))
 obtain ⟨x, hx⟩ : ∃ x, bv sa.data.toList = x := ⟨_, rfl⟩
 obtain ⟨y, hy⟩ : ∃ y, bv sb.data.toList = y := ⟨_, rfl⟩
 rw [hx] at Hn3 L1 ⊢
 rw [hy] at Hn2 L2 h0 ⊢
 have Hx := Lib.hid hx
 have Hy := Lib.hid hy
 clear hx hy
 have t1 : ((nlen y : Int) == 0) = false := by rw [beq_eq_false_iff_ne]; have := mt nlen_eq_zero.1 (show y ≠ 0 by omega); omega
 have hr := Nat.mod_lt x h0
 have hql : nlen (x / y) ≤ nlen x := nlen_mono (Nat.div_le_self _ _)
 have hrl : nlen (x % y) ≤ nlen y := nlen_mono (Nat.le_of_lt hr)
 clear k0 k1 k2 k3 k4 l0 l1 l2 l3 l4 a0 a1 a2 a3 a4 b0 b1 b2 b3 b4
 go_wp2_with fail
 refine (divide_any A A' c c' x y _ (by exact Hn3.out.same) (by exact Hn2.out.same) (by omega) h0).mono ?_
 rintro e w3 ⟨A3, c3, A4, c4, rfl, hq, hr3, hb3⟩
 have HO3 := Lib.hid (HO2.out.next hb3)
 have Hy3 := Lib.hid (Hn2.out.same.next hb3)
 obtain ⟨r0, r1, r2, r3, r4⟩ := HO3.out.blk 0 w.heap.size rfl rfl
 obtain ⟨s0, s1, s2, s3, s4⟩ := HO3.out.blk 1 (w.heap.size + 1) rfl rfl
 have Hq := Lib.hid hq
 have Hr := Lib.hid hr3
 clear hq hr3 hb3 m0 m1 m2 m3 m4 n0 n1 n2 n3 n4
 have hone : nlen 1 = 1 := by rw [nlen_pos (by decide), show 1 / B32 = 0 from rfl, nlen_zero]
 have hq1 := nlen_add (x / y) 1
 have hsub : nlen (y - x % y) ≤ nlen y := nlen_mono (Nat.sub_le _ _)
 rw [hone] at hq1
 have Hone := Lib.hid hone
 clear hone
 by_cases hne : (na == nb) = true
 ·have Hs := Lib.hid (div_same (na := na) (nb := nb) (x := x) h0 (.inl (by simpa using hne)))
  go_upto_region 7 with fail
  go_region_held3 (fun w' => w'.cell? ⟨w.heap.size, 0, none⟩ = some (.bool na) ∧ w'.cell? ⟨w.heap.size + 1, 0, none⟩ = some (.bool nb)) (go_keep) (first
   | (go_at_call_of 40 (Value.slice A3 (nlen (x / y)) c3); refine (number_nt _ A3 c3 _ _ (by exact Hq.out.same) (by omega)).mono ?_; rintro e w5 ⟨rfl, hb5⟩; have HO5 := Lib.hid (HO3.out.next hb5); have HR5 := Lib.hid (Hr.out.same.next hb5); obtain ⟨t0, t1, t2, t3, t4⟩ := HO5.out.blk 0 w.heap.size rfl rfl; obtain ⟨u0, u1, u2, u3, u4⟩ := HO5.out.blk 1 (w.heap.size + 1) rfl rfl; clear hb5)
   | (go_at_call_of 40 (Value.slice A4 (nlen (x % y)) c4); refine (number_nt _ A4 c4 _ _ (by exact HR5.out.same) (by omega)).mono ?_; rintro e w6 ⟨rfl, hb6⟩; have HO6 := Lib.hid (HO5.out.next hb6); obtain ⟨v0, v1, v2, v3, v4⟩ := HO6.out.blk 0 w.heap.size rfl rfl; obtain ⟨x0, x1, x2, x3, x4⟩ := HO6.out.blk 1 (w.heap.size + 1) rfl rfl; obtain ⟨y0, y1, y2, y3, y4⟩ := HO6.out.blk 2 (w.heap.size + 1 + 1) rfl rfl; obtain ⟨z0, z1, z2, z3, z4⟩ := HO6.out.blk 3 (w.heap.size + 1 + 1 + 1) rfl rfl; clear hb6))
  all_goals go_wp2
  refine bodyPost_ret (v := .tuple #[.agg #[.bool (sg (!(na == nb)) (x / y)), .string (mg (x / y))], .agg #[.bool (sg nb (x % y)), .string (mg (x % y))], .int .i64 0]) (by simp [results, Tryz.results104, go_sem, y0, y1, z0, z1, hne]) rfl ?_
  refine ⟨if (!(na == nb)) then -((x / y : Nat) : Int) else ((x / y : Nat) : Int), if nb then -((x % y : Nat) : Int) else ((x % y : Nat) : Int), ?_, ?_, ?_⟩
  ·rw [← sg_eq, ← sg_eq, abs_eq, abs_eq]
  ·unfold iv; rw [Hx.out, Hy.out]; exact Hs.out
  ·exact HO6.out.stored4 (w.heap.size + 1 + 1) (w.heap.size + 1 + 1 + 1) (by omega) (by omega) _ _ _ _
 ·have hne' : (na == nb) = false := by simpa using hne
  clear hne
  by_cases hz : x % y = 0
  ·have Hs := Lib.hid (div_same (na := na) (nb := nb) (x := x) h0 (.inr hz))
   have hz2 : ¬ (0 : Int) < (nlen (x % y) : Int) := by rw [hz, nlen_zero]; omega
   clear hz
   go_upto_region 7 with fail
   go_region_held3 (fun w' => w'.cell? ⟨w.heap.size, 0, none⟩ = some (.bool na) ∧ w'.cell? ⟨w.heap.size + 1, 0, none⟩ = some (.bool nb)) (go_keep) (first
    | (go_at_call_of 40 (Value.slice A3 (nlen (x / y)) c3); refine (number_nt _ A3 c3 _ _ (by exact Hq.out.same) (by omega)).mono ?_; rintro e w5 ⟨rfl, hb5⟩; have HO5 := Lib.hid (HO3.out.next hb5); have HR5 := Lib.hid (Hr.out.same.next hb5); obtain ⟨t0, t1, t2, t3, t4⟩ := HO5.out.blk 0 w.heap.size rfl rfl; obtain ⟨u0, u1, u2, u3, u4⟩ := HO5.out.blk 1 (w.heap.size + 1) rfl rfl; clear hb5)
    | (go_at_call_of 40 (Value.slice A4 (nlen (x % y)) c4); refine (number_nt _ A4 c4 _ _ (by exact HR5.out.same) (by omega)).mono ?_; rintro e w6 ⟨rfl, hb6⟩; have HO6 := Lib.hid (HO5.out.next hb6); obtain ⟨v0, v1, v2, v3, v4⟩ := HO6.out.blk 0 w.heap.size rfl rfl; obtain ⟨x0, x1, x2, x3, x4⟩ := HO6.out.blk 1 (w.heap.size + 1) rfl rfl; obtain ⟨y0, y1, y2, y3, y4⟩ := HO6.out.blk 2 (w.heap.size + 1 + 1) rfl rfl; obtain ⟨z0, z1, z2, z3, z4⟩ := HO6.out.blk 3 (w.heap.size + 1 + 1 + 1) rfl rfl; clear hb6))
   all_goals go_wp2
   refine bodyPost_ret (v := .tuple #[.agg #[.bool (sg (!(na == nb)) (x / y)), .string (mg (x / y))], .agg #[.bool (sg nb (x % y)), .string (mg (x % y))], .int .i64 0]) (by simp [results, Tryz.results104, go_sem, y0, y1, z0, z1, hne']) rfl ?_
   refine ⟨if (!(na == nb)) then -((x / y : Nat) : Int) else ((x / y : Nat) : Int), if nb then -((x % y : Nat) : Int) else ((x % y : Nat) : Int), ?_, ?_, ?_⟩
   ·rw [← sg_eq, ← sg_eq, abs_eq, abs_eq]
   ·unfold iv; rw [Hx.out, Hy.out]; exact Hs.out
   ·exact HO6.out.stored4 (w.heap.size + 1 + 1) (w.heap.size + 1 + 1 + 1) (by omega) (by omega) _ _ _ _
  ·have Hs := Lib.hid (div_other (na := na) (nb := nb) (x := x) h0 (by simpa using hne') hz)
   have hz2 : (0 : Int) < (nlen (x % y) : Int) := by have := mt nlen_eq_zero.1 hz; omega
   clear hz
   have Hone2 : Hid (Nt (w3.alloc (.cells #[.int .u32 1] 74)) (w3.alloc (.cells #[.int .u32 1] 74)).heap.size (some ⟨w3.heap.size, 0, none⟩) 1 1) :=
    Nt.of_digits (one_row w3 (V := 1) (r := 1) rfl (by omega)) (by decide) (by omega)
   have hba : Below w3.heap.size w3 (w3.alloc (.cells #[.int .u32 1] 74)) := (Below.refl _ _).alloc (Nat.le_refl _) _
   have Hqa := Lib.hid (Hq.out.next hba)
   have Hra := Lib.hid (Hr.out.next hba)
   have Hya := Lib.hid (Hy3.out.next hba)
   have HOa := Lib.hid (HO3.out.next hba)
   clear hba
   have HA : Hid (∀ w', w'.heap = (w3.alloc (.cells #[.int .u32 1] 74)).heap → Calls Tryz.prog 94 #[.slice A3 (nlen (x / y)) c3, .slice (some ⟨w3.heap.size, 0, none⟩) 1 1] w' (RetNat w' (x / y + 1))) := fun w' he => by
    have := add_any A3 (some ⟨w3.heap.size, 0, none⟩) c3 1 (x / y) 1 w' (Hqa.out.same he) (Hone2.out.same he) (by omega) (by rw [Hone.out]; omega)
    rwa [Hone.out] at this
   go_wp2_with fail
   refine (HA.out _ (by rfl)).mono ?_
   rintro e w4 ⟨A7, c7, rfl, hn7, hb7⟩
   have HO7 := Lib.hid (HOa.out.next hb7)
   have Hr7 := Lib.hid (Hra.out.same.next hb7)
   have Hy7 := Lib.hid (Hya.out.same.next hb7)
   have Hq7 := Lib.hid hn7
   clear hb7 hn7
   go_wp2_with fail
   refine (subtract_any A' A4 c' c4 y (x % y) _ (by exact Hy7.out.same) (by exact Hr7.out.same) (by omega) (by omega)).mono ?_
   rintro e w4b ⟨A8, c8, rfl, hn8, hb8⟩
   have HO8 := Lib.hid (HO7.out.next hb8)
   have Hq8 := Lib.hid (Hq7.out.same.next hb8)
   have Hr8 := Lib.hid hn8
   obtain ⟨g0, g1, g2, g3, g4⟩ := HO8.out.blk 0 w.heap.size rfl rfl
   obtain ⟨i0, i1, i2, i3, i4⟩ := HO8.out.blk 1 (w.heap.size + 1) rfl rfl
   clear hb8 hn8
   go_upto_region 7 with fail
   have hq9 : nlen (x / y + 1) ≤ 10000000 := by omega
   have hr9 : nlen (y - x % y) ≤ 10000000 := by omega
   have tok1 : True := trivial
   go_region_held3 (fun w' => w'.cell? ⟨w.heap.size, 0, none⟩ = some (.bool na) ∧ w'.cell? ⟨w.heap.size + 1, 0, none⟩ = some (.bool nb)) (go_keep) (first
    | (go_at_call 40; have _t := tok1; refine (number_nt _ A7 c7 (x / y + 1) _ (by exact Hq8.out.same) hq9).mono ?_; rintro e w5 ⟨rfl, hb5⟩; have HO5 := Lib.hid (HO8.out.next hb5); have HR5 := Lib.hid (Hr8.out.same.next hb5); obtain ⟨t0, t1, t2, t3, t4⟩ := HO5.out.blk 0 w.heap.size rfl rfl; obtain ⟨u0, u1, u2, u3, u4⟩ := HO5.out.blk 1 (w.heap.size + 1) rfl rfl; clear hb5 tok1)
    | (go_at_call 40; refine (number_nt _ A8 c8 (y - x % y) _ (by exact HR5.out.same) hr9).mono ?_; rintro e w6 ⟨rfl, hb6⟩; have HO6 := Lib.hid (HO5.out.next hb6); obtain ⟨v0, v1, v2, v3, v4⟩ := HO6.out.blk 0 w.heap.size rfl rfl; obtain ⟨x0, x1, x2, x3, x4⟩ := HO6.out.blk 1 (w.heap.size + 1) rfl rfl; obtain ⟨y0, y1, y2, y3, y4⟩ := HO6.out.blk 2 (w.heap.size + 1 + 1) rfl rfl; obtain ⟨z0, z1, z2, z3, z4⟩ := HO6.out.blk 3 (w.heap.size + 1 + 1 + 1) rfl rfl; clear hb6))
   all_goals go_wp2
   refine bodyPost_ret (v := .tuple #[.agg #[.bool (sg (!(na == nb)) (x / y + 1)), .string (mg (x / y + 1))], .agg #[.bool (sg nb (y - x % y)), .string (mg (y - x % y))], .int .i64 0]) (by simp [results, Tryz.results104, go_sem, y0, y1, z0, z1, hne']) rfl ?_
   refine ⟨if (!(na == nb)) then -((x / y + 1 : Nat) : Int) else ((x / y + 1 : Nat) : Int), if nb then -((y - x % y : Nat) : Int) else ((y - x % y : Nat) : Int), ?_, ?_, ?_⟩
   ·rw [← sg_eq, ← sg_eq, abs_eq, abs_eq]
   ·unfold iv; rw [Hx.out, Hy.out]; exact Hs.out
   ·exact HO6.out.stored4 (w.heap.size + 1 + 1) (w.heap.size + 1 + 1 + 1) (by omega) (by omega) _ _ _ _
end Go.Proofs.Gv
