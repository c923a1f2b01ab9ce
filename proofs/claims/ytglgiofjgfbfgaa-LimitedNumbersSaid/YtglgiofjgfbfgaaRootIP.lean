/- integer.Mul. -/
import Derived.Test.YtglgiofjgfbfgaaAddP
import Derived.Test.YtglgiofjgfbfgaaMulP
import Derived.Deep.RegionHeld3
import Derived.RegionTactic
import Derived.Test.YtglgiofjgfbfgaaNumberP
import Derived.Test.YtglgiofjgfbfgaaShelf
import Derived.Shelf.Small.Bits
import Derived.Test.YtglgiofjgfbfgaaTrimP
import Derived.Laws.StructEq
import Derived.Laws.BitsLemmas
import Derived.Laws.CopyOwn
import Derived.BigRegion
set_option linter.unusedSimpArgs false
set_option linter.unusedVariables false
namespace Go.Proofs.Gv
open Go Go.RowKit

theorem mul_sign (na nb : Bool) (x y : Nat) : (if na then -(x : Int) else x) * (if nb then -(y : Int) else y) = if !(na == nb) then -((x * y : Nat) : Int) else ((x * y : Nat) : Int) := by
  cases na <;> cases nb <;> simp [Int.neg_mul, Int.mul_neg]

set_option maxHeartbeats 1600000 in
theorem Mul_any (na nb : Bool) (sa sb : ByteArray) (w : World) (ha : sa.size ≤ 15000000) (hb : sb.size ≤ 15000000) :
    Calls Try.prog 13 #[.agg #[.bool na, .string sa], .agg #[.bool nb, .string sb]] w (RetI w (iv na sa * iv nb sb)) := by
  have l1 := nlen_bv (s := sa)
  have l2 := nlen_bv (s := sb)
  have l3 : nlen (bv sa.data.toList * bv sb.data.toList) ≤ nlen (bv sa.data.toList) + nlen (bv sb.data.toList) := nlen_le_iff.2 (mul_lt_pow (lt_pow_nlen _) (lt_pow_nlen _))
  go_enter Try.func13, Try.ntmps13
  go_wp2
  obtain ⟨W, hW⟩ : ∃ W, ((w.alloc (.cells #[.bool na, .string sa] 29)).alloc (.cells #[.bool nb, .string sb] 29)).alloc (.cells #[.bool false, .string ⟨#[]⟩] 29) = W := ⟨_, rfl⟩
  have HO := Lib.hid (Own.three w (.cells #[.bool na, .string sa] 29) (.cells #[.bool nb, .string sb] 29) (.cells #[.bool false, .string ⟨#[]⟩] 29))
  rw [hW] at HO ⊢
  clear hW
  obtain ⟨a0, a1, a2, a3, a4⟩ := HO.out.blk 0 w.heap.size rfl rfl
  obtain ⟨b0, b1, b2, b3, b4⟩ := HO.out.blk 1 (w.heap.size + 1) rfl rfl
  obtain ⟨c0, c1, c2, c3, c4⟩ := HO.out.blk 2 (w.heap.size + 1 + 1) rfl rfl
  have ne1 : ¬ w.heap.size = w.heap.size + 1 + 1 := by omega
  have ne2 : ¬ w.heap.size + 1 + 1 = w.heap.size := by omega
  go_region_held3 (fun w' => w'.cell? ⟨w.heap.size, 0, none⟩ = some (.bool na) ∧ w'.cell? ⟨w.heap.size, 1, none⟩ = some (.string sa) ∧ w'.cell? ⟨w.heap.size + 1, 0, none⟩ = some (.bool nb) ∧ w'.cell? ⟨w.heap.size + 1, 1, none⟩ = some (.string sb)) (go_keep) (first
    | (go_at_call_of 46 (Value.agg #[.bool na, .string sa]); refine (digits_any na sa _ (by omega)).mono ?_; rintro e w1 ⟨A, c, rfl, hn, hb⟩; have HO1 := Lib.hid (HO.out.next hb); obtain ⟨k0, k1, k2, k3, k4⟩ := HO1.out.blk 0 w.heap.size rfl rfl; obtain ⟨l0, l1, l2, l3, l4⟩ := HO1.out.blk 1 (w.heap.size + 1) rfl rfl; have Hn1 := Lib.hid hn; clear hb hn)
    | (go_at_call_of 46 (Value.agg #[.bool nb, .string sb]); refine (digits_any nb sb _ (by omega)).mono ?_; rintro e w2 ⟨A', c', rfl, hn, hb⟩; have HO2 := Lib.hid (HO1.out.next hb); obtain ⟨m0, m1, m2, m3, m4⟩ := HO2.out.blk 0 w.heap.size rfl rfl; obtain ⟨n0, n1, n2, n3, n4⟩ := HO2.out.blk 1 (w.heap.size + 1) rfl rfl; have Hn2 := Lib.hid hn; have Hn3 := Lib.hid (Hn1.out.next hb); clear hb hn)
    | (go_at_call 45; refine (multiply_any A A' c c' _ _ _ Hn3.out Hn2.out (by omega) (by omega)).mono ?_; rintro e w3 ⟨A3, c3, rfl, hn, hb⟩; have HO3 := Lib.hid (HO2.out.next hb); obtain ⟨p0, p1, p2, p3, p4⟩ := HO3.out.blk 0 w.heap.size rfl rfl; obtain ⟨q0, q1, q2, q3, q4⟩ := HO3.out.blk 1 (w.heap.size + 1) rfl rfl; have Hn4 := Lib.hid hn; clear hb hn)
    | (go_at_call 44; refine (number_nt _ A3 c3 _ _ Hn4.out (by omega)).mono ?_; rintro e w4 ⟨rfl, hb2⟩; have HO4 := Lib.hid (HO3.out.next hb2); obtain ⟨r0, r1, r2, r3, r4⟩ := HO4.out.blk 0 w.heap.size rfl rfl; obtain ⟨s0, s1, s2, s3, s4⟩ := HO4.out.blk 1 (w.heap.size + 1) rfl rfl; obtain ⟨j0, j1, j2, j3, j4⟩ := HO4.out.blk 2 (w.heap.size + 1 + 1) rfl rfl; clear hb2))
  all_goals go_wp2
  refine bodyPost_ret (v := .agg #[.bool (sg (!(na == nb)) (bv sa.data.toList * bv sb.data.toList)), .string (mg (bv sa.data.toList * bv sb.data.toList))]) (by simp [results, Try.results13, go_sem, j0, j1]) rfl ?_
  refine RetInt.toI ⟨rfl, ?_⟩ (by unfold iv; exact mul_sign na nb _ _)
  exact HO4.out.stored (w.heap.size + 1 + 1) (by omega) _ _
end Go.Proofs.Gv

namespace Go.Proofs.Gv
open Go Go.RowKit

/-- The carry into digit k of x * p. -/
def hc (x p k : Nat) : Nat := x % B32 ^ k * p / B32 ^ k
end Go.Proofs.Gv

namespace Go.Proofs.Gv
open Go Go.RowKit

theorem Dr.step (w : World) : Dr w w.drew := ⟨1, rfl⟩

end Go.Proofs.Gv

namespace Go.Proofs.Gv
open Go Go.RowKit

theorem nlen_add (x y : Nat) : nlen (x + y) ≤ nlen x + nlen y + 1 := by
  rw [nlen_le_iff]
  have h1 := Nat.lt_of_lt_of_le (lt_pow_nlen x) (Nat.pow_le_pow_right B32_pos (show nlen x ≤ nlen x + nlen y by omega))
  have h2 := Nat.lt_of_lt_of_le (lt_pow_nlen y) (Nat.pow_le_pow_right B32_pos (show nlen y ≤ nlen x + nlen y by omega))
  have h3 : 2 * B32 ^ (nlen x + nlen y) ≤ B32 * B32 ^ (nlen x + nlen y) := Nat.mul_le_mul_right _ (by decide)
  rw [Nat.pow_succ, Nat.mul_comm (B32 ^ _)]
  omega

/-- What Add makes of signs and absolute values. -/
theorem add_same (ng : Bool) (x y : Nat) : (if ng then -(x : Int) else x) + (if ng then -(y : Int) else y) = if ng then -((x + y : Nat) : Int) else ((x + y : Nat) : Int) := by
  cases ng <;> simp <;> omega

theorem add_less {na nb : Bool} {x y : Nat} (h : (na == nb) = false) (hl : x ≤ y) : (if na then -(x : Int) else x) + (if nb then -(y : Int) else y) = if nb then -((y - x : Nat) : Int) else ((y - x : Nat) : Int) := by
  revert h; cases na <;> cases nb <;> simp <;> omega
theorem add_more {na nb : Bool} {x y : Nat} (h : (na == nb) = false) (hl : y ≤ x) : (if na then -(x : Int) else x) + (if nb then -(y : Int) else y) = if na then -((x - y : Nat) : Int) else ((x - y : Nat) : Int) := by
  revert h; cases na <;> cases nb <;> simp <;> omega

set_option maxHeartbeats 1600000 in
theorem Add_any (na nb : Bool) (sa sb : ByteArray) (w : World) (ha : sa.size ≤ 15000000) (hb : sb.size ≤ 15000000) :
    Calls Try.prog 42 #[.agg #[.bool na, .string sa], .agg #[.bool nb, .string sb]] w (RetI w (iv na sa + iv nb sb)) := by
  have L1 := nlen_bv (s := sa)
  have L2 := nlen_bv (s := sb)
  have L3 := nlen_add (bv sa.data.toList) (bv sb.data.toList)
  go_enter Try.func42, Try.ntmps42
  go_wp2
  obtain ⟨W, hW⟩ : ∃ W, ((w.alloc (.cells #[.bool na, .string sa] 29)).alloc (.cells #[.bool nb, .string sb] 29)).alloc (.cells #[.bool false, .string ⟨#[]⟩] 29) = W := ⟨_, rfl⟩
  have HO := Lib.hid (Own.three w (.cells #[.bool na, .string sa] 29) (.cells #[.bool nb, .string sb] 29) (.cells #[.bool false, .string ⟨#[]⟩] 29))
  rw [hW] at HO ⊢
  clear hW
  obtain ⟨a0, a1, a2, a3, a4⟩ := HO.out.blk 0 w.heap.size rfl rfl
  obtain ⟨b0, b1, b2, b3, b4⟩ := HO.out.blk 1 (w.heap.size + 1) rfl rfl
  have ne1 : ¬ w.heap.size = w.heap.size + 1 + 1 := by omega
  have ne2 : ¬ w.heap.size + 1 + 1 = w.heap.size := by omega
  go_region_held3 (fun w' => w'.cell? ⟨w.heap.size, 0, none⟩ = some (.bool na) ∧ w'.cell? ⟨w.heap.size, 1, none⟩ = some (.string sa) ∧ w'.cell? ⟨w.heap.size + 1, 0, none⟩ = some (.bool nb) ∧ w'.cell? ⟨w.heap.size + 1, 1, none⟩ = some (.string sb)) (go_keep) (first
    | (go_at_call_of 46 (Value.agg #[.bool na, .string sa]); refine (digits_any na sa _ (by omega)).mono ?_; rintro e w1 ⟨A, c, rfl, hn, hb⟩; have HO1 := Lib.hid (HO.out.next hb); obtain ⟨k0, k1, k2, k3, k4⟩ := HO1.out.blk 0 w.heap.size rfl rfl; obtain ⟨l0, l1, l2, l3, l4⟩ := HO1.out.blk 1 (w.heap.size + 1) rfl rfl; have Hn1 := Lib.hid hn; clear hb hn)
    | (go_at_call_of 46 (Value.agg #[.bool nb, .string sb]); refine (digits_any nb sb _ (by omega)).mono ?_; rintro e w2 ⟨A', c', rfl, hn, hb⟩; have HO2 := Lib.hid (HO1.out.next hb); obtain ⟨m0, m1, m2, m3, m4⟩ := HO2.out.blk 0 w.heap.size rfl rfl; obtain ⟨n0, n1, n2, n3, n4⟩ := HO2.out.blk 1 (w.heap.size + 1) rfl rfl; have Hn2 := Lib.hid hn; have Hn3 := Lib.hid (Hn1.out.next hb); clear hb hn))
  obtain ⟨x, hx⟩ : ∃ x, bv sa.data.toList = x := ⟨_, rfl⟩
  obtain ⟨y, hy⟩ : ∃ y, bv sb.data.toList = y := ⟨_, rfl⟩
  rw [hx] at Hn3 L1 L3 ⊢
  rw [hy] at Hn2 L2 L3 ⊢
  have Hx := Lib.hid hx
  have Hy := Lib.hid hy
  clear hx hy
  by_cases hs : (na == nb) = true
  · have e : na = nb := by simpa using hs
    have He := Lib.hid e
    clear e
    go_wp2
    go_region_held3 (fun w' => w'.cell? ⟨w.heap.size, 0, none⟩ = some (.bool na)) (go_keep) (first
      | (go_at_call 85; refine (add_any A A' c c' x y _ (by exact Hn3.out.same) (by exact Hn2.out.same) (by omega) (by omega)).mono ?_; rintro e w3 ⟨A3, c3, rfl, hn, hb⟩; have HO3 := Lib.hid (HO2.out.next hb); obtain ⟨p0, p1, p2, p3, p4⟩ := HO3.out.blk 0 w.heap.size rfl rfl; have Hn4 := Lib.hid hn; clear hb hn)
      | (go_at_call 44; refine (number_nt _ A3 c3 _ _ (by exact Hn4.out.same) (by omega)).mono ?_; rintro e w4 ⟨rfl, hb2⟩; have HO4 := Lib.hid (HO3.out.next hb2); obtain ⟨r0, r1, r2, r3, r4⟩ := HO4.out.blk 0 w.heap.size rfl rfl; obtain ⟨j0, j1, j2, j3, j4⟩ := HO4.out.blk 2 (w.heap.size + 1 + 1) rfl rfl; clear hb2))
    all_goals go_wp2
    refine bodyPost_ret (v := .agg #[.bool (sg na (x + y)), .string (mg (x + y))]) (by simp [results, Try.results42, go_sem, j0, j1]) rfl ?_
    refine RetInt.toI ⟨rfl, ?_⟩ (by unfold iv; rw [Hx.out, Hy.out, ← He.out]; exact add_same na x y)
    exact HO4.out.stored (w.heap.size + 1 + 1) (by omega) _ _
  · have hs' : (na == nb) = false := by simpa using hs
    clear hs
    by_cases hlt : x < y
    · have HC := Lib.hid (cmpN_lt hlt)
      have hle : nlen (y - x) ≤ nlen y := nlen_mono (Nat.sub_le _ _)
      go_wp2_with fail
      refine (compare_any A A' c c' x y _ (by exact Hn3.out.same) (by exact Hn2.out.same)).mono ?_
      rw [HC.out]
      rintro e w3 ⟨rfl, nn, rfl⟩
      go_wp2
      go_region_held3 (fun w' => w'.cell? ⟨w.heap.size + 1, 0, none⟩ = some (.bool nb)) (go_keep) (first
        | (go_at_call 87; refine (subtract_any A' A c' c y x _ (by exact Hn2.out.same) (by exact Hn3.out.same) (by omega) (by omega)).mono ?_; rintro e w3 ⟨A3, c3, rfl, hn, hb⟩; have HO3 := Lib.hid (HO2.out.next hb); obtain ⟨p0, p1, p2, p3, p4⟩ := HO3.out.blk 1 (w.heap.size + 1) rfl rfl; have Hn4 := Lib.hid hn; clear hb hn)
        | (go_at_call 44; refine (number_nt _ A3 c3 _ _ (by exact Hn4.out.same) (by omega)).mono ?_; rintro e w4 ⟨rfl, hb2⟩; have HO4 := Lib.hid (HO3.out.next hb2); obtain ⟨r0, r1, r2, r3, r4⟩ := HO4.out.blk 1 (w.heap.size + 1) rfl rfl; obtain ⟨j0, j1, j2, j3, j4⟩ := HO4.out.blk 2 (w.heap.size + 1 + 1) rfl rfl; clear hb2))
      all_goals go_wp2
      refine bodyPost_ret (v := .agg #[.bool (sg nb (y - x)), .string (mg (y - x))]) (by simp [results, Try.results42, go_sem, j0, j1]) rfl ?_
      refine RetInt.toI ⟨rfl, ?_⟩ (by unfold iv; rw [Hx.out, Hy.out]; exact add_less hs' (by omega))
      exact HO4.out.stored (w.heap.size + 1 + 1) (by omega) _ _
    · have hge : 0 ≤ cmpN x y := by unfold cmpN; rw [if_neg hlt]; split <;> omega
      have hneg : ¬ cmpN x y < 0 := by omega
      have hle : nlen (x - y) ≤ nlen x := nlen_mono (Nat.sub_le _ _)
      go_wp2_with fail
      refine (compare_any A A' c c' x y _ (by exact Hn3.out.same) (by exact Hn2.out.same)).mono ?_
      rintro e w3 ⟨rfl, nn, rfl⟩
      go_wp2
      go_region_held3 (fun w' => w'.cell? ⟨w.heap.size, 0, none⟩ = some (.bool na)) (go_keep) (first
        | (go_at_call 87; refine (subtract_any A A' c c' x y _ (by exact Hn3.out.same) (by exact Hn2.out.same) (by omega) (by omega)).mono ?_; rintro e w3 ⟨A3, c3, rfl, hn, hb⟩; have HO3 := Lib.hid (HO2.out.next hb); obtain ⟨p0, p1, p2, p3, p4⟩ := HO3.out.blk 0 w.heap.size rfl rfl; have Hn4 := Lib.hid hn; clear hb hn)
        | (go_at_call 44; refine (number_nt _ A3 c3 _ _ (by exact Hn4.out.same) (by omega)).mono ?_; rintro e w4 ⟨rfl, hb2⟩; have HO4 := Lib.hid (HO3.out.next hb2); obtain ⟨r0, r1, r2, r3, r4⟩ := HO4.out.blk 0 w.heap.size rfl rfl; obtain ⟨j0, j1, j2, j3, j4⟩ := HO4.out.blk 2 (w.heap.size + 1 + 1) rfl rfl; clear hb2))
      all_goals go_wp2
      refine bodyPost_ret (v := .agg #[.bool (sg na (x - y)), .string (mg (x - y))]) (by simp [results, Try.results42, go_sem, j0, j1]) rfl ?_
      refine RetInt.toI ⟨rfl, ?_⟩ (by unfold iv; rw [Hx.out, Hy.out]; exact add_more hs' (by omega))
      exact HO4.out.stored (w.heap.size + 1 + 1) (by omega) _ _
end Go.Proofs.Gv

namespace Go.Proofs.Gv
open Go Go.RowKit

/-- Two words that make a natural. -/
theorem two_words (n : Nat) (h : n < 18446744073709551616) : val (fun i => if i = 0 then n % 4294967296 else n / 4294967296) 2 = n := by
  simp [val, B32]
  omega

def twoW (n i : Nat) : Nat := if i = 0 then n % 4294967296 else n / 4294967296
theorem two_row (W : World) {n : Nat} {a b : Int} (ha : a = (n : Int) % 4294967296) (hb : b = (n : Int) / 4294967296) :
    (W.alloc (.cells #[.int .u32 a, .int .u32 b] 68)).rowIs W.heap.size 68 2 (u32s (twoW n)) :=
  World.rowIs_alloc W _ _ _ fun i hi => by
    have hi' : i < 2 := by simpa using hi
    subst ha; subst hb
    match i, hi' with
    | 0, _ => simp [u32s, twoW]
    | 1, _ => simp [u32s, twoW]
theorem number_two (ng : Bool) (n N : Nat) (W : World) (hN : W.heap.size = N) (hn : n < 18446744073709551616) {a b : Int} (ha : a = (n : Int) % 4294967296) (hb : b = (n : Int) / 4294967296) :
    Calls Try.prog 44 #[.bool ng, .slice (some ⟨N, 0, none⟩) 2 2] (W.alloc (.cells #[.int .u32 a, .int .u32 b] 68)) (RetInt (W.alloc (.cells #[.int .u32 a, .int .u32 b] 68)) ng n) := by
  subst hN
  have := number_any ng (some ⟨W.heap.size, 0, none⟩) 2 2 (twoW n) (W.alloc (.cells #[.int .u32 a, .int .u32 b] 68)) (Rd.of_row (two_row W ha hb) (Nat.le_refl _)) (fun i _ => by unfold twoW B32; split <;> omega) (Nat.le_refl _) (by omega) (by omega)
  rwa [show val (twoW n) 2 = n from two_words n hn] at this

set_option maxHeartbeats 800000 in
theorem Of_any (z : Int) (w : World) (h1 : -9223372036854775808 ≤ z) (h2 : z < 9223372036854775808) :
    Calls Try.prog 12 #[.int .i64 z] w (RetI w z) := by
  by_cases h0 : z < 0
  · go_enter Try.func12, Try.ntmps12
    obtain ⟨n, hz⟩ : ∃ n : Nat, z = -(n : Int) := ⟨z.natAbs, by omega⟩
    have e1 : IntKind.u64.wrap (-IntKind.u64.wrap z) = (n : Int) := by rw [IntKind.wrap_u64, IntKind.wrap_u64]; omega
    have hn : n < 18446744073709551616 := by omega
    have e2 : (n : Int) / 4294967296 % 4294967296 = (n : Int) / 4294967296 := by omega
    have Hz := Lib.hid hz
    clear hz
    have HO := Lib.hid ((Own.one w (.cells #[.bool false, .string ⟨#[]⟩] 29)).next ((Below.refl _ _).alloc (Nat.le_refl _) (.cells #[.int .u32 ((n : Int) % 4294967296), .int .u32 ((n : Int) / 4294967296)] 68)))
    go_wp2_with fail
    refine (number_two true n (w.heap.size + 1) _ (by simp) hn rfl rfl).mono ?_
    rintro e w1 ⟨rfl, hb⟩
    have HO1 := Lib.hid (HO.out.next hb)
    obtain ⟨a0, a1, a2, a3, a4⟩ := HO1.out.blk 0 w.heap.size rfl rfl
    go_wp2
    refine bodyPost_ret (v := .agg #[.bool (sg true n), .string (mg n)]) (by simp [results, Try.results12, go_sem, a0, a1]) rfl ?_
    refine RetInt.toI ⟨rfl, ?_⟩ (by rw [Hz.out]; simp)
    exact HO1.out.stored w.heap.size (Nat.le_refl _) _ _
  · obtain ⟨n, rfl⟩ : ∃ n : Nat, z = n := ⟨z.toNat, by omega⟩
    go_enter Try.func12, Try.ntmps12
    go_wp2_with fail
    have HO := Lib.hid ((Own.one w (.cells #[.bool false, .string ⟨#[]⟩] 29)).next ((Below.refl _ _).alloc (Nat.le_refl _) (.cells #[.int .u32 ((n : Int) % 4294967296), .int .u32 ((n : Int) / 4294967296)] 68)))
    refine (number_two false n (w.heap.size + 1) _ (by simp) (by omega) rfl rfl).mono ?_
    rintro e w1 ⟨rfl, hb⟩
    have HO1 := Lib.hid (HO.out.next hb)
    obtain ⟨a0, a1, a2, a3, a4⟩ := HO1.out.blk 0 w.heap.size rfl rfl
    go_wp2
    refine bodyPost_ret (v := .agg #[.bool (sg false n), .string (mg n)]) (by simp [results, Try.results12, go_sem, a0, a1]) rfl ?_
    refine RetInt.toI ⟨rfl, ?_⟩ (by simp)
    exact HO1.out.stored w.heap.size (Nat.le_refl _) _ _
end Go.Proofs.Gv

namespace Go.Proofs.Gv
open Go Go.RowKit

/-- Sign and bytes are equal. -/
def eqI (a : Bool) (s : ByteArray) (b : Bool) (t : ByteArray) : Bool := (a == b) && (s.toList == t.toList)
theorem eqI_iff {a b : Bool} {s t : ByteArray} : eqI a s b t = true ↔ a = b ∧ s = t := by
  unfold eqI
  rw [Bool.and_eq_true, beq_iff_eq, beq_iff_eq, ByteArray.toList_eq, ByteArray.toList_eq]
  constructor
  · rintro ⟨h1, h2⟩; exact ⟨h1, by rcases s with ⟨⟨x⟩⟩; rcases t with ⟨⟨y⟩⟩; simpa using h2⟩
  · rintro ⟨rfl, rfl⟩; exact ⟨rfl, rfl⟩
theorem eqS (a b : Bool) (s t : ByteArray) (w : World) :
    (Op.equalIn 10000 29 (.agg #[.bool a, .string s]) (.agg #[.bool b, .string t])).run Try.prog w = .ok (eqI a s b t) w := by
  have hS : Try.prog.underlying 29 = some (.struct (Try.prog.fieldsOf 29)) := by kernel_rfl
  have hp : Try.prog.stoodInHeld 29 = false := by kernel_rfl
  have u4 := Try.underlying4
  have a4 := Try.isAgg4
  have z4 := Try.sizeOf4
  have u9 := Try.underlying9
  have a9 := Try.isAgg9
  have z9 := Try.sizeOf9
  rw [show (10000 : Nat) = 9999 + 1 from rfl, run_equalIn_agg w 9999 29 _ _ hS hp]
  simp only [Program.fieldsOf, Try.underlying29]
  go_simp
  unfold eqI
  by_cases h : s.toList = t.toList <;> cases a <;> cases b <;> simp [h]
@[go_sem ↓] theorem run_eqlS (a b : Bool) (s t : ByteArray) (w : World) :
    (binOp .eql 29 (.agg #[.bool a, .string s]) (.agg #[.bool b, .string t])).run Try.prog w = .ok (.bool (eqI a s b t)) w := by
  rw [run_eql_struct, eqS]; rfl
@[go_sem ↓] theorem run_neqS (a b : Bool) (s t : ByteArray) (w : World) :
    (binOp .neq 29 (.agg #[.bool a, .string s]) (.agg #[.bool b, .string t])).run Try.prog w = .ok (.bool (!eqI a s b t)) w := by
  rw [run_neq_struct, eqS]; rfl
@[go_sem] theorem eqGuardS : Try.prog.eqGuardType Try.prog.depth 29 = false := by kernel_rfl
end Go.Proofs.Gv

namespace Go.Proofs.Gv
open Go Go.RowKit

theorem mg_zero : mg 0 = ⟨#[]⟩ := by
  have h := byt_len_le 0 0 (by decide)
  have : byt 0 = [] := List.eq_nil_of_length_eq_zero (by omega)
  unfold mg; rw [this]
theorem sgn_zero : sgn 0 = false := rfl
end Go.Proofs.Gv

namespace Go.Proofs.Gv
open Go Go.RowKit

set_option maxHeartbeats 800000 in
theorem Neg_any (na : Bool) (sa : ByteArray) (w : World) (ha : sa.size ≤ 30000000) :
    Calls Try.prog 57 #[.agg #[.bool na, .string sa]] w (RetI w (-iv na sa)) := by
  go_enter Try.func57, Try.ntmps57
  go_wp2
  obtain ⟨W, hW⟩ : ∃ W, (w.alloc (.cells #[.bool na, .string sa] 29)).alloc (.cells #[.bool false, .string ⟨#[]⟩] 29) = W := ⟨_, rfl⟩
  have HO := Lib.hid (Own.two w (.cells #[.bool na, .string sa] 29) (.cells #[.bool false, .string ⟨#[]⟩] 29))
  rw [hW] at HO ⊢
  clear hW
  obtain ⟨a0, a1, a2, a3, a4⟩ := HO.out.blk 0 w.heap.size rfl rfl
  obtain ⟨b0, b1, b2, b3, b4⟩ := HO.out.blk 1 (w.heap.size + 1) rfl rfl
  go_region_held3 (fun w' => w'.cell? ⟨w.heap.size, 0, none⟩ = some (.bool na) ∧ w'.cell? ⟨w.heap.size, 1, none⟩ = some (.string sa)) (go_keep) (first
    | (go_at_call 46; refine (digits_any na sa _ (by omega)).mono ?_; rintro e w1 ⟨A, c, rfl, hn, hb⟩; have HO1 := Lib.hid (HO.out.next hb); obtain ⟨k0, k1, k2, k3, k4⟩ := HO1.out.blk 0 w.heap.size rfl rfl; obtain ⟨l0, l1, l2, l3, l4⟩ := HO1.out.blk 1 (w.heap.size + 1) rfl rfl; clear hb)
    | (go_at_call 44; refine (number_nt _ A c _ _ (by assumption) (by have := nlen_bv (s := sa); omega)).mono ?_; rintro e w2 ⟨rfl, hb2⟩; have HO2 := Lib.hid (HO1.out.next hb2); obtain ⟨m0, m1, m2, m3, m4⟩ := HO2.out.blk 0 w.heap.size rfl rfl; obtain ⟨j0, j1, j2, j3, j4⟩ := HO2.out.blk 1 (w.heap.size + 1) rfl rfl; clear hb2))
  go_wp2
  refine bodyPost_ret (v := .agg #[.bool (sg (!na) (bv sa.data.toList)), .string (mg (bv sa.data.toList))]) (by simp [results, Try.results57, go_sem, j0, j1]) rfl ?_
  refine RetInt.toI ⟨rfl, ?_⟩ (by unfold iv; cases na <;> simp)
  exact HO2.out.stored (w.heap.size + 1) (by omega) _ _
end Go.Proofs.Gv

namespace Go.Proofs.Gv
open Go Go.RowKit

theorem mg_size_iv (na : Bool) (sa : ByteArray) : (mg (iv na sa).natAbs).size ≤ sa.size := size_mg (iv_lt na sa)
theorem mg_size_neg (na : Bool) (sa : ByteArray) : (mg (-iv na sa).natAbs).size ≤ sa.size := by rw [Int.natAbs_neg]; exact mg_size_iv na sa

set_option maxHeartbeats 1600000 in
theorem Sub_any (na nb : Bool) (sa sb : ByteArray) (w : World) (ha : sa.size ≤ 15000000) (hb : sb.size ≤ 15000000) :
    Calls Try.prog 21 #[.agg #[.bool na, .string sa], .agg #[.bool nb, .string sb]] w (RetI w (iv na sa - iv nb sb)) := by
  have L1 := mg_size_neg nb sb
  obtain ⟨z, hz⟩ : ∃ z, iv na sa - iv nb sb = z := ⟨_, rfl⟩
  rw [hz]
  obtain ⟨q, hq⟩ : ∃ q, -iv nb sb = q := ⟨_, rfl⟩
  have HN : Hid (∀ w', Calls Try.prog 57 #[.agg #[.bool nb, .string sb]] w' (RetI w' q)) := fun w' => by rw [← hq]; exact Neg_any nb sb w' (by omega)
  rw [hq] at L1
  have HA : Hid (∀ w', Calls Try.prog 42 #[.agg #[.bool na, .string sa], .agg #[.bool (sgn q), .string (mg q.natAbs)]] w' (RetI w' z)) := fun w' => by
    have := Add_any na (sgn q) sa (mg q.natAbs) w' (by omega) (by omega)
    rwa [iv_V, ← hq, ← Int.sub_eq_add_neg, hz, hq] at this
  clear hz hq
  go_enter Try.func21, Try.ntmps21
  go_wp2
  obtain ⟨W, hW⟩ : ∃ W, ((w.alloc (.cells #[.bool na, .string sa] 29)).alloc (.cells #[.bool nb, .string sb] 29)).alloc (.cells #[.bool false, .string ⟨#[]⟩] 29) = W := ⟨_, rfl⟩
  have HO := Lib.hid (Own.three w (.cells #[.bool na, .string sa] 29) (.cells #[.bool nb, .string sb] 29) (.cells #[.bool false, .string ⟨#[]⟩] 29))
  rw [hW] at HO ⊢
  clear hW
  obtain ⟨a0, a1, a2, a3, a4⟩ := HO.out.blk 0 w.heap.size rfl rfl
  obtain ⟨b0, b1, b2, b3, b4⟩ := HO.out.blk 1 (w.heap.size + 1) rfl rfl
  have ne1 : ¬ w.heap.size = w.heap.size + 1 + 1 := by omega
  have ne2 : ¬ w.heap.size + 1 + 1 = w.heap.size := by omega
  go_region_held3 (fun w' => w'.cell? ⟨w.heap.size, 0, none⟩ = some (.bool na) ∧ w'.cell? ⟨w.heap.size, 1, none⟩ = some (.string sa) ∧ w'.cell? ⟨w.heap.size + 1, 0, none⟩ = some (.bool nb) ∧ w'.cell? ⟨w.heap.size + 1, 1, none⟩ = some (.string sb)) (go_keep) (first
    | (go_at_call 57; refine (HN.out _).mono ?_; rintro e w1 ⟨rfl, hb⟩; have HO1 := Lib.hid (HO.out.next hb); obtain ⟨k0, k1, k2, k3, k4⟩ := HO1.out.blk 0 w.heap.size rfl rfl; obtain ⟨l0, l1, l2, l3, l4⟩ := HO1.out.blk 1 (w.heap.size + 1) rfl rfl; clear hb)
    | (go_at_call 42; refine (HA.out _).mono ?_; rintro e w2 ⟨rfl, hb⟩; have HO2 := Lib.hid (HO1.out.next hb); obtain ⟨m0, m1, m2, m3, m4⟩ := HO2.out.blk 0 w.heap.size rfl rfl; obtain ⟨n0, n1, n2, n3, n4⟩ := HO2.out.blk 1 (w.heap.size + 1) rfl rfl; obtain ⟨j0, j1, j2, j3, j4⟩ := HO2.out.blk 2 (w.heap.size + 1 + 1) rfl rfl; clear hb))
  all_goals go_wp2
  refine bodyPost_ret (v := .agg #[.bool (sgn z), .string (mg z.natAbs)]) (by simp [results, Try.results21, go_sem, j0, j1]) rfl ?_
  exact ⟨rfl, HO2.out.stored (w.heap.size + 1 + 1) (by omega) _ _⟩

/-- -1, 0 or 1. -/
def cmpI (a b : Int) : Int := if a < b then -1 else if b < a then 1 else 0
theorem cmpI_lt {a b : Int} (h : a < b) : cmpI a b = -1 := by simp [cmpI, h]
theorem cmpI_gt {a b : Int} (h : b < a) : cmpI a b = 1 := by unfold cmpI; rw [if_neg (by omega), if_pos h]
theorem cmpI_eq (a : Int) : cmpI a a = 0 := by simp [cmpI]

theorem mg_toList (n : Nat) : (mg n).toList = byt n := by rw [ByteArray.toList_eq]; exact mg_list n
theorem mg_empty : (mg 0).toList.isEmpty = true := by rw [mg_toList, byt_zero]; rfl
theorem mg_full {n : Nat} (h : n ≠ 0) : (mg n).toList.isEmpty = false := by
  rw [mg_toList]
  have := mt byt_eq_nil.1 h
  cases e : byt n with
  | nil => exact absurd e this
  | cons a l => rfl

set_option maxHeartbeats 1600000 in
theorem Compare_any (na nb : Bool) (sa sb : ByteArray) (w : World) (ha : sa.size ≤ 15000000) (hb : sb.size ≤ 15000000) :
    Calls Try.prog 20 #[.agg #[.bool na, .string sa], .agg #[.bool nb, .string sb]] w fun e w' => e = .returned (.int .i64 (cmpI (iv na sa) (iv nb sb))) ∧ Below w.heap.size w w' := by
  go_enter Try.func20, Try.ntmps20
  go_wp2_with fail
  have HO := Lib.hid (Own.two w (.cells #[.bool na, .string sa] 29) (.cells #[.bool nb, .string sb] 29))
  refine (Sub_any na nb sa sb _ ha hb).mono ?_
  rintro e w1 ⟨rfl, hb1⟩
  have HO1 := Lib.hid (HO.out.next hb1)
  clear hb1
  obtain ⟨d, hd⟩ : ∃ d, iv na sa - iv nb sb = d := ⟨_, rfl⟩
  have Hd := Lib.hid hd
  rw [hd]
  clear hd
  by_cases h1 : d < 0
  · have hs : sgn d = true := by unfold sgn; simpa using h1
    rw [hs]
    clear hs
    go_wp2
    go_ret
    exact ⟨by rw [cmpI_lt (by have := Hd.out; omega)]; rfl, HO1.out.below.alloc HO1.out.below.size _⟩
  · have hs : sgn d = false := by unfold sgn; simpa using h1
    rw [hs]
    clear hs
    by_cases h2 : d = 0
    · have he : (mg d.natAbs).toList.isEmpty = true := by rw [h2]; exact mg_empty
      have Hd2 := Lib.hid h2
      clear h2
      go_wp2
      go_ret
      exact ⟨by rw [show iv na sa = iv nb sb by have := Hd.out; have := Hd2.out; omega, cmpI_eq]; rfl, HO1.out.below.alloc HO1.out.below.size _⟩
    · have he : (mg d.natAbs).toList.isEmpty = false := mg_full (by omega)
      have h3 : 0 < d := by omega
      clear h2
      go_wp2
      go_ret
      exact ⟨by rw [cmpI_gt (by have := Hd.out; omega)]; rfl, HO1.out.below.alloc HO1.out.below.size _⟩
end Go.Proofs.Gv

namespace Go.Proofs.Gv

section
variable {X Y M k g : Nat}
/-- The number in u in front of the step k, and behind it with the window b. -/
def num (X k b : Nat) : Nat := join k (X % B32 ^ k) b
section
variable {W : Nat}
end
end

end Go.Proofs.Gv

namespace Go.Proofs.Gv
open Go Go.RowKit

/-- The three rows of a long division. -/
structure DivMem (w wr : World) (gv gq n M K : Nat) (f h : Nat → Nat) (Y : Nat) : Prop where
  u : wr.rowIs w.heap.size 68 n (u32s f)
  v : wr.rowIs gv 68 (M + 1) (u32s (D Y))
  q : wr.rowIs gq 68 K (u32s h)
  b : Below w.heap.size w wr
  l1 : w.heap.size < gv
  l2 : gv < gq
section
variable {w wr : World} {gv gq n M K : Nat} {f f' h h' : Nat → Nat} {Y : Nat}
theorem DivMem.congr (m : DivMem w wr gv gq n M K f h Y) (e : ∀ i, i < n → f i = f' i) : DivMem w wr gv gq n M K f' h Y :=
  ⟨m.u.congr fun i hi => by unfold u32s; rw [e i hi], m.v, m.q, m.b, m.l1, m.l2⟩
end

section
variable {Y W M T g r : Nat}
end
end Go.Proofs.Gv

namespace Go.Proofs.Gv
open Go Go.RowKit

open Classical in
/-- While the root is made: the box of n, the box of the digits, the result's block. -/
structure RtSt (w wr : World) (bx : Nat) (n x : Nat) (Ax : Option Addr) (cx : Nat) : Prop where
  cn : wr.cell? ⟨w.heap.size + 1, 0, none⟩ = some (.int .i64 n)
  cb : wr.cell? ⟨bx, 0, none⟩ = some (.slice Ax (nlen x) cx)
  nx : Nt wr wr.heap.size Ax cx x
  r0 : ∃ v, wr.cell? ⟨w.heap.size + 1 + 1, 0, none⟩ = some v
  r1 : ∃ v, wr.cell? ⟨w.heap.size + 1 + 1, 1, none⟩ = some v
  g0 : wr.frozen? ⟨w.heap.size + 1 + 1, 0, none⟩ = false
  g1 : wr.frozen? ⟨w.heap.size + 1 + 1, 1, none⟩ = false
  ln : w.heap.size + 1 + 1 < bx
  lx : bx < wr.heap.size
  be : Below w.heap.size w wr
theorem RtSt.next {w wr W' : World} {bx n x : Nat} {Ax : Option Addr} {cx : Nat} (h : RtSt w wr bx n x Ax cx) (hb : Below wr.heap.size wr W') : RtSt w W' bx n x Ax cx := by
  have h1 := h.ln
  have h2 := h.lx
  have h3 := h.be.size
  exact ⟨(hb.cell (p := ⟨w.heap.size + 1, 0, none⟩) (by show w.heap.size + 1 < _; omega)).trans h.cn, (hb.cell (p := ⟨bx, 0, none⟩) h2).trans h.cb, h.nx.next hb,
    h.r0.imp fun v hv => (hb.cell (p := ⟨w.heap.size + 1 + 1, 0, none⟩) (by show w.heap.size + 1 + 1 < _; omega)).trans hv, h.r1.imp fun v hv => (hb.cell (p := ⟨w.heap.size + 1 + 1, 1, none⟩) (by show w.heap.size + 1 + 1 < _; omega)).trans hv,
    (hb.frozen (p := ⟨w.heap.size + 1 + 1, 0, none⟩) (by show w.heap.size + 1 + 1 < _; omega)).trans h.g0, (hb.frozen (p := ⟨w.heap.size + 1 + 1, 1, none⟩) (by show w.heap.size + 1 + 1 < _; omega)).trans h.g1,
    h1, Nat.lt_of_lt_of_le h2 hb.size, h.be.trans (hb.mono h3)⟩
end Go.Proofs.Gv
