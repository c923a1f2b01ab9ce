/- integer.Mul. -/
import Derived.Test.YtglgiofjgfbfgaaAddP
import Derived.Test.YtglgiofjgfbfgaaMul
import Derived.Deep.RegionHeld3
import Derived.RegionTactic
import Derived.Test.YtglgiofjgfbfgaaBytesP
import Derived.Test.YtglgiofjgfbfgaaCompareP
import Derived.Test.YtglgiofjgfbfgaaShelf
import Derived.Shelf.Small.Bits
import Derived.Test.YtglgiofjgfbfgaaTrimP
import Derived.Test.YtglgiofjgfbfgaaSub
set_option linter.unusedSimpArgs false
set_option linter.unusedVariables false
namespace Go.Proofs.Gv
open Go Go.RowKit

theorem mul_sign (na nb : Bool) (x y : Nat) : (if na then -(x : Int) else x) * (if nb then -(y : Int) else y) = if !(na == nb) then -((x * y : Nat) : Int) else ((x * y : Nat) : Int) := by
  cases na <;> cases nb <;> simp [Int.neg_mul, Int.mul_neg]

set_option maxHeartbeats 1600000 in
theorem Mul_any (na nb : Bool) (sa sb : ByteArray) (w : World) (ha : sa.size ≤ 15000000) (hb : sb.size ≤ 15000000) :
    Calls Try.prog 13 #[.agg #[.bool na, .string sa], .agg #[.bool nb, .string sb]] w (RetI w (iv na sa * iv nb sb)) := by
  have l1 := nlen_bv (s := sa)
  have l2 := nlen_bv (s := sb)
  have l3 : nlen (bv sa.data.toList * bv sb.data.toList) ≤ nlen (bv sa.data.toList) + nlen (bv sb.data.toList) := nlen_le_iff.2 (mul_lt_pow (lt_pow_nlen _) (lt_pow_nlen _))
  go_enter Try.func13, Try.ntmps13
  go_wp2
  obtain ⟨W, hW⟩ : ∃ W, ((w.alloc (.cells #[.bool na, .string sa] 29)).alloc (.cells #[.bool nb, .string sb] 29)).alloc (.cells #[.bool false, .string ⟨#[]⟩] 29) = W := ⟨_, rfl⟩
  have HO := Lib.hid (Own.three w (.cells #[.bool na, .string sa] 29) (.cells #[.bool nb, .string sb] 29) (.cells #[.bool false, .string ⟨#[]⟩] 29))
  rw [hW] at HO ⊢
  clear hW
  obtain ⟨a0, a1, a2, a3, a4⟩ := HO.out.blk 0 w.heap.size rfl rfl
  obtain ⟨b0, b1, b2, b3, b4⟩ := HO.out.blk 1 (w.heap.size + 1) rfl rfl
  obtain ⟨c0, c1, c2, c3, c4⟩ := HO.out.blk 2 (w.heap.size + 1 + 1) rfl rfl
  have ne1 : ¬ w.heap.size = w.heap.size + 1 + 1 := by omega
  have ne2 : ¬ w.heap.size + 1 + 1 = w.heap.size := by omega
  go_region_held3 (fun w' => w'.cell? ⟨w.heap.size, 0, none⟩ = some (.bool na) ∧ w'.cell? ⟨w.heap.size, 1, none⟩ = some (.string sa) ∧ w'.cell? ⟨w.heap.size + 1, 0, none⟩ = some (.bool nb) ∧ w'.cell? ⟨w.heap.size + 1, 1, none⟩ = some (.string sb)) (go_keep) (first
    | (go_at_call_of 46 (Value.agg #[.bool na, .string sa]); refine (digits_any na sa _ (by omega)).mono ?_; rintro e w1 ⟨A, c, rfl, hn, hb⟩; have HO1 := Lib.hid (HO.out.next hb); obtain ⟨k0, k1, k2, k3, k4⟩ := HO1.out.blk 0 w.heap.size rfl rfl; obtain ⟨l0, l1, l2, l3, l4⟩ := HO1.out.blk 1 (w.heap.size + 1) rfl rfl; have Hn1 := Lib.hid hn; clear hb hn)
    | (go_at_call_of 46 (Value.agg #[.bool nb, .string sb]); refine (digits_any nb sb _ (by omega)).mono ?_; rintro e w2 ⟨A', c', rfl, hn, hb⟩; have HO2 := Lib.hid (HO1.out.next hb); obtain ⟨m0, m1, m2, m3, m4⟩ := HO2.out.blk 0 w.heap.size rfl rfl; obtain ⟨n0, n1, n2, n3, n4⟩ := HO2.out.blk 1 (w.heap.size + 1) rfl rfl; have Hn2 := Lib.hid hn; have Hn3 := Lib.hid (Hn1.out.next hb); clear hb hn)
    | (go_at_call 45; refine (multiply_any A A' c c' _ _ _ Hn3.out Hn2.out (by omega) (by omega)).mono ?_; rintro e w3 ⟨A3, c3, rfl, hn, hb⟩; have HO3 := Lib.hid (HO2.out.next hb); obtain ⟨p0, p1, p2, p3, p4⟩ := HO3.out.blk 0 w.heap.size rfl rfl; obtain ⟨q0, q1, q2, q3, q4⟩ := HO3.out.blk 1 (w.heap.size + 1) rfl rfl; have Hn4 := Lib.hid hn; clear hb hn)
    | (go_at_call 44; refine (number_nt _ A3 c3 _ _ Hn4.out (by omega)).mono ?_; rintro e w4 ⟨rfl, hb2⟩; have HO4 := Lib.hid (HO3.out.next hb2); obtain ⟨r0, r1, r2, r3, r4⟩ := HO4.out.blk 0 w.heap.size rfl rfl; obtain ⟨s0, s1, s2, s3, s4⟩ := HO4.out.blk 1 (w.heap.size + 1) rfl rfl; obtain ⟨j0, j1, j2, j3, j4⟩ := HO4.out.blk 2 (w.heap.size + 1 + 1) rfl rfl; clear hb2))
  all_goals go_wp2
  refine bodyPost_ret (v := .agg #[.bool (sg (!(na == nb)) (bv sa.data.toList * bv sb.data.toList)), .string (mg (bv sa.data.toList * bv sb.data.toList))]) (by simp [results, Try.results13, go_sem, j0, j1]) rfl ?_
  refine RetInt.toI ⟨rfl, ?_⟩ (by unfold iv; exact mul_sign na nb _ _)
  exact HO4.out.stored (w.heap.size + 1 + 1) (by omega) _ _
end Go.Proofs.Gv

namespace Go.Proofs.Gv
open Go Go.RowKit

/-- The carry into digit k of x * p. -/
def hc (x p k : Nat) : Nat := x % B32 ^ k * p / B32 ^ k
end Go.Proofs.Gv

namespace Go.Proofs.Gv
open Go Go.RowKit

theorem Dr.step (w : World) : Dr w w.drew := ⟨1, rfl⟩

end Go.Proofs.Gv

namespace Go.Proofs.Gv
open Go Go.RowKit

theorem nlen_add (x y : Nat) : nlen (x + y) ≤ nlen x + nlen y + 1 := by
  rw [nlen_le_iff]
  have h1 := Nat.lt_of_lt_of_le (lt_pow_nlen x) (Nat.pow_le_pow_right B32_pos (show nlen x ≤ nlen x + nlen y by omega))
  have h2 := Nat.lt_of_lt_of_le (lt_pow_nlen y) (Nat.pow_le_pow_right B32_pos (show nlen y ≤ nlen x + nlen y by omega))
  have h3 : 2 * B32 ^ (nlen x + nlen y) ≤ B32 * B32 ^ (nlen x + nlen y) := Nat.mul_le_mul_right _ (by decide)
  rw [Nat.pow_succ, Nat.mul_comm (B32 ^ _)]
  omega

/-- What Add makes of signs and absolute values. -/
theorem add_same (ng : Bool) (x y : Nat) : (if ng then -(x : Int) else x) + (if ng then -(y : Int) else y) = if ng then -((x + y : Nat) : Int) else ((x + y : Nat) : Int) := by
  cases ng <;> simp <;> omega

theorem add_less {na nb : Bool} {x y : Nat} (h : (na == nb) = false) (hl : x ≤ y) : (if na then -(x : Int) else x) + (if nb then -(y : Int) else y) = if nb then -((y - x : Nat) : Int) else ((y - x : Nat) : Int) := by
  revert h; cases na <;> cases nb <;> simp <;> omega
theorem add_more {na nb : Bool} {x y : Nat} (h : (na == nb) = false) (hl : y ≤ x) : (if na then -(x : Int) else x) + (if nb then -(y : Int) else y) = if na then -((x - y : Nat) : Int) else ((x - y : Nat) : Int) := by
  revert h; cases na <;> cases nb <;> simp <;> omega

set_option maxHeartbeats 1600000 in
theorem Add_any (na nb : Bool) (sa sb : ByteArray) (w : World) (ha : sa.size ≤ 15000000) (hb : sb.size ≤ 15000000) :
    Calls Try.prog 42 #[.agg #[.bool na, .string sa], .agg #[.bool nb, .string sb]] w (RetI w (iv na sa + iv nb sb)) := by
  have L1 := nlen_bv (s := sa)
  have L2 := nlen_bv (s := sb)
  have L3 := nlen_add (bv sa.data.toList) (bv sb.data.toList)
  go_enter Try.func42, Try.ntmps42
  go_wp2
  obtain ⟨W, hW⟩ : ∃ W, ((w.alloc (.cells #[.bool na, .string sa] 29)).alloc (.cells #[.bool nb, .string sb] 29)).alloc (.cells #[.bool false, .string ⟨#[]⟩] 29) = W := ⟨_, rfl⟩
  have HO := Lib.hid (Own.three w (.cells #[.bool na, .string sa] 29) (.cells #[.bool nb, .string sb] 29) (.cells #[.bool false, .string ⟨#[]⟩] 29))
  rw [hW] at HO ⊢
  clear hW
  obtain ⟨a0, a1, a2, a3, a4⟩ := HO.out.blk 0 w.heap.size rfl rfl
  obtain ⟨b0, b1, b2, b3, b4⟩ := HO.out.blk 1 (w.heap.size + 1) rfl rfl
  have ne1 : ¬ w.heap.size = w.heap.size + 1 + 1 := by omega
  have ne2 : ¬ w.heap.size + 1 + 1 = w.heap.size := by omega
  go_region_held3 (fun w' => w'.cell? ⟨w.heap.size, 0, none⟩ = some (.bool na) ∧ w'.cell? ⟨w.heap.size, 1, none⟩ = some (.string sa) ∧ w'.cell? ⟨w.heap.size + 1, 0, none⟩ = some (.bool nb) ∧ w'.cell? ⟨w.heap.size + 1, 1, none⟩ = some (.string sb)) (go_keep) (first
    | (go_at_call_of 46 (Value.agg #[.bool na, .string sa]); refine (digits_any na sa _ (by omega)).mono ?_; rintro e w1 ⟨A, c, rfl, hn, hb⟩; have HO1 := Lib.hid (HO.out.next hb); obtain ⟨k0, k1, k2, k3, k4⟩ := HO1.out.blk 0 w.heap.size rfl rfl; obtain ⟨l0, l1, l2, l3, l4⟩ := HO1.out.blk 1 (w.heap.size + 1) rfl rfl; have Hn1 := Lib.hid hn; clear hb hn)
    | (go_at_call_of 46 (Value.agg #[.bool nb, .string sb]); refine (digits_any nb sb _ (by omega)).mono ?_; rintro e w2 ⟨A', c', rfl, hn, hb⟩; have HO2 := Lib.hid (HO1.out.next hb); obtain ⟨m0, m1, m2, m3, m4⟩ := HO2.out.blk 0 w.heap.size rfl rfl; obtain ⟨n0, n1, n2, n3, n4⟩ := HO2.out.blk 1 (w.heap.size + 1) rfl rfl; have Hn2 := Lib.hid hn; have Hn3 := Lib.hid (Hn1.out.next hb); clear hb hn))
  obtain ⟨x, hx⟩ : ∃ x, bv sa.data.toList = x := ⟨_, rfl⟩
  obtain ⟨y, hy⟩ : ∃ y, bv sb.data.toList = y := ⟨_, rfl⟩
  rw [hx] at Hn3 L1 L3 ⊢
  rw [hy] at Hn2 L2 L3 ⊢
  have Hx := Lib.hid hx
  have Hy := Lib.hid hy
  clear hx hy
  by_cases hs : (na == nb) = true
  · have e : na = nb := by simpa using hs
    have He := Lib.hid e
    clear e
    go_wp2
    go_region_held3 (fun w' => w'.cell? ⟨w.heap.size, 0, none⟩ = some (.bool na)) (go_keep) (first
      | (go_at_call 85; refine (add_any A A' c c' x y _ (by exact Hn3.out.same) (by exact Hn2.out.same) (by omega) (by omega)).mono ?_; rintro e w3 ⟨A3, c3, rfl, hn, hb⟩; have HO3 := Lib.hid (HO2.out.next hb); obtain ⟨p0, p1, p2, p3, p4⟩ := HO3.out.blk 0 w.heap.size rfl rfl; have Hn4 := Lib.hid hn; clear hb hn)
      | (go_at_call 44; refine (number_nt _ A3 c3 _ _ (by exact Hn4.out.same) (by omega)).mono ?_; rintro e w4 ⟨rfl, hb2⟩; have HO4 := Lib.hid (HO3.out.next hb2); obtain ⟨r0, r1, r2, r3, r4⟩ := HO4.out.blk 0 w.heap.size rfl rfl; obtain ⟨j0, j1, j2, j3, j4⟩ := HO4.out.blk 2 (w.heap.size + 1 + 1) rfl rfl; clear hb2))
    all_goals go_wp2
    refine bodyPost_ret (v := .agg #[.bool (sg na (x + y)), .string (mg (x + y))]) (by simp [results, Try.results42, go_sem, j0, j1]) rfl ?_
    refine RetInt.toI ⟨rfl, ?_⟩ (by unfold iv; rw [Hx.out, Hy.out, ← He.out]; exact add_same na x y)
    exact HO4.out.stored (w.heap.size + 1 + 1) (by omega) _ _
  · have hs' : (na == nb) = false := by simpa using hs
    clear hs
    by_cases hlt : x < y
    · have HC := Lib.hid (cmpN_lt hlt)
      have hle : nlen (y - x) ≤ nlen y := nlen_mono (Nat.sub_le _ _)
      go_wp2_with fail
      refine (compare_any A A' c c' x y _ (by exact Hn3.out.same) (by exact Hn2.out.same)).mono ?_
      rw [HC.out]
      rintro e w3 ⟨rfl, nn, rfl⟩
      go_wp2
      go_region_held3 (fun w' => w'.cell? ⟨w.heap.size + 1, 0, none⟩ = some (.bool nb)) (go_keep) (first
        | (go_at_call 87; refine (subtract_any A' A c' c y x _ (by exact Hn2.out.same) (by exact Hn3.out.same) (by omega) (by omega)).mono ?_; rintro e w3 ⟨A3, c3, rfl, hn, hb⟩; have HO3 := Lib.hid (HO2.out.next hb); obtain ⟨p0, p1, p2, p3, p4⟩ := HO3.out.blk 1 (w.heap.size + 1) rfl rfl; have Hn4 := Lib.hid hn; clear hb hn)
        | (go_at_call 44; refine (number_nt _ A3 c3 _ _ (by exact Hn4.out.same) (by omega)).mono ?_; rintro e w4 ⟨rfl, hb2⟩; have HO4 := Lib.hid (HO3.out.next hb2); obtain ⟨r0, r1, r2, r3, r4⟩ := HO4.out.blk 1 (w.heap.size + 1) rfl rfl; obtain ⟨j0, j1, j2, j3, j4⟩ := HO4.out.blk 2 (w.heap.size + 1 + 1) rfl rfl; clear hb2))
      all_goals go_wp2
      refine bodyPost_ret (v := .agg #[.bool (sg nb (y - x)), .string (mg (y - x))]) (by simp [results, Try.results42, go_sem, j0, j1]) rfl ?_
      refine RetInt.toI ⟨rfl, ?_⟩ (by unfold iv; rw [Hx.out, Hy.out]; exact add_less hs' (by omega))
      exact HO4.out.stored (w.heap.size + 1 + 1) (by omega) _ _
    · have hge : 0 ≤ cmpN x y := by unfold cmpN; rw [if_neg hlt]; split <;> omega
      have hneg : ¬ cmpN x y < 0 := by omega
      have hle : nlen (x - y) ≤ nlen x := nlen_mono (Nat.sub_le _ _)
      go_wp2_with fail
      refine (compare_any A A' c c' x y _ (by exact Hn3.out.same) (by exact Hn2.out.same)).mono ?_
      rintro e w3 ⟨rfl, nn, rfl⟩
      go_wp2
      go_region_held3 (fun w' => w'.cell? ⟨w.heap.size, 0, none⟩ = some (.bool na)) (go_keep) (first
        | (go_at_call 87; refine (subtract_any A A' c c' x y _ (by exact Hn3.out.same) (by exact Hn2.out.same) (by omega) (by omega)).mono ?_; rintro e w3 ⟨A3, c3, rfl, hn, hb⟩; have HO3 := Lib.hid (HO2.out.next hb); obtain ⟨p0, p1, p2, p3, p4⟩ := HO3.out.blk 0 w.heap.size rfl rfl; have Hn4 := Lib.hid hn; clear hb hn)
        | (go_at_call 44; refine (number_nt _ A3 c3 _ _ (by exact Hn4.out.same) (by omega)).mono ?_; rintro e w4 ⟨rfl, hb2⟩; have HO4 := Lib.hid (HO3.out.next hb2); obtain ⟨r0, r1, r2, r3, r4⟩ := HO4.out.blk 0 w.heap.size rfl rfl; obtain ⟨j0, j1, j2, j3, j4⟩ := HO4.out.blk 2 (w.heap.size + 1 + 1) rfl rfl; clear hb2))
      all_goals go_wp2
      refine bodyPost_ret (v := .agg #[.bool (sg na (x - y)), .string (mg (x - y))]) (by simp [results, Try.results42, go_sem, j0, j1]) rfl ?_
      refine RetInt.toI ⟨rfl, ?_⟩ (by unfold iv; rw [Hx.out, Hy.out]; exact add_more hs' (by omega))
      exact HO4.out.stored (w.heap.size + 1 + 1) (by omega) _ _
end Go.Proofs.Gv
