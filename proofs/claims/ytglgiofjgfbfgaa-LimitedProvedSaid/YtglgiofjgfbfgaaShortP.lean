/- integer.Mul. -/
import Derived.Test.YtglgiofjgfbfgaaAddP
import Derived.Test.YtglgiofjgfbfgaaMulP
import Derived.Deep.RegionHeld3
import Derived.RegionTactic
set_option linter.unusedSimpArgs false
set_option linter.unusedVariables false
namespace Go.Proofs.Gv
open Go Go.RowKit

theorem mul_sign (na nb : Bool) (x y : Nat) : (if na then -(x : Int) else x) * (if nb then -(y : Int) else y) = if !(na == nb) then -((x * y : Nat) : Int) else ((x * y : Nat) : Int) := by
  cases na <;> cases nb <;> simp [Int.neg_mul, Int.mul_neg]

set_option maxHeartbeats 1600000 in
theorem Mul_any (na nb : Bool) (sa sb : ByteArray) (w : World) (ha : sa.size ≤ 15000000) (hb : sb.size ≤ 15000000) :
    Calls Try.prog 13 #[.agg #[.bool na, .string sa], .agg #[.bool nb, .string sb]] w (RetI w (iv na sa * iv nb sb)) := by
  have l1 := nlen_bv (s := sa)
  have l2 := nlen_bv (s := sb)
  have l3 : nlen (bv sa.data.toList * bv sb.data.toList) ≤ nlen (bv sa.data.toList) + nlen (bv sb.data.toList) := nlen_le_iff.2 (mul_lt_pow (lt_pow_nlen _) (lt_pow_nlen _))
  go_enter Try.func13, Try.ntmps13
  go_wp2
  obtain ⟨W, hW⟩ : ∃ W, ((w.alloc (.cells #[.bool na, .string sa] 29)).alloc (.cells #[.bool nb, .string sb] 29)).alloc (.cells #[.bool false, .string ⟨#[]⟩] 29) = W := ⟨_, rfl⟩
  have HO := Lib.hid (Own.three w (.cells #[.bool na, .string sa] 29) (.cells #[.bool nb, .string sb] 29) (.cells #[.bool false, .string ⟨#[]⟩] 29))
  rw [hW] at HO ⊢
  clear hW
  obtain ⟨a0, a1, a2, a3, a4⟩ := HO.out.blk 0 w.heap.size rfl rfl
  obtain ⟨b0, b1, b2, b3, b4⟩ := HO.out.blk 1 (w.heap.size + 1) rfl rfl
  obtain ⟨c0, c1, c2, c3, c4⟩ := HO.out.blk 2 (w.heap.size + 1 + 1) rfl rfl
  have ne1 : ¬ w.heap.size = w.heap.size + 1 + 1 := by omega
  have ne2 : ¬ w.heap.size + 1 + 1 = w.heap.size := by omega
  go_region_held3 (fun w' => w'.cell? ⟨w.heap.size, 0, none⟩ = some (.bool na) ∧ w'.cell? ⟨w.heap.size, 1, none⟩ = some (.string sa) ∧ w'.cell? ⟨w.heap.size + 1, 0, none⟩ = some (.bool nb) ∧ w'.cell? ⟨w.heap.size + 1, 1, none⟩ = some (.string sb)) (go_keep) (first
    | (go_at_call_of 46 (Value.agg #[.bool na, .string sa]); refine (digits_any na sa _ (by omega)).mono ?_; rintro e w1 ⟨A, c, rfl, hn, hb⟩; have HO1 := Lib.hid (HO.out.next hb); obtain ⟨k0, k1, k2, k3, k4⟩ := HO1.out.blk 0 w.heap.size rfl rfl; obtain ⟨l0, l1, l2, l3, l4⟩ := HO1.out.blk 1 (w.heap.size + 1) rfl rfl; have Hn1 := Lib.hid hn; clear hb hn)
    | (go_at_call_of 46 (Value.agg #[.bool nb, .string sb]); refine (digits_any nb sb _ (by omega)).mono ?_; rintro e w2 ⟨A', c', rfl, hn, hb⟩; have HO2 := Lib.hid (HO1.out.next hb); obtain ⟨m0, m1, m2, m3, m4⟩ := HO2.out.blk 0 w.heap.size rfl rfl; obtain ⟨n0, n1, n2, n3, n4⟩ := HO2.out.blk 1 (w.heap.size + 1) rfl rfl; have Hn2 := Lib.hid hn; have Hn3 := Lib.hid (Hn1.out.next hb); clear hb hn)
    | (go_at_call 45; refine (multiply_any A A' c c' _ _ _ Hn3.out Hn2.out (by omega) (by omega)).mono ?_; rintro e w3 ⟨A3, c3, rfl, hn, hb⟩; have HO3 := Lib.hid (HO2.out.next hb); obtain ⟨p0, p1, p2, p3, p4⟩ := HO3.out.blk 0 w.heap.size rfl rfl; obtain ⟨q0, q1, q2, q3, q4⟩ := HO3.out.blk 1 (w.heap.size + 1) rfl rfl; have Hn4 := Lib.hid hn; clear hb hn)
    | (go_at_call 44; refine (number_nt _ A3 c3 _ _ Hn4.out (by omega)).mono ?_; rintro e w4 ⟨rfl, hb2⟩; have HO4 := Lib.hid (HO3.out.next hb2); obtain ⟨r0, r1, r2, r3, r4⟩ := HO4.out.blk 0 w.heap.size rfl rfl; obtain ⟨s0, s1, s2, s3, s4⟩ := HO4.out.blk 1 (w.heap.size + 1) rfl rfl; obtain ⟨j0, j1, j2, j3, j4⟩ := HO4.out.blk 2 (w.heap.size + 1 + 1) rfl rfl; clear hb2))
  all_goals go_wp2
  refine bodyPost_ret (v := .agg #[.bool (sg (!(na == nb)) (bv sa.data.toList * bv sb.data.toList)), .string (mg (bv sa.data.toList * bv sb.data.toList))]) (by simp [results, Try.results13, go_sem, j0, j1]) rfl ?_
  refine RetInt.toI ⟨rfl, ?_⟩ (by unfold iv; exact mul_sign na nb _ _)
  exact HO4.out.stored (w.heap.size + 1 + 1) (by omega) _ _
end Go.Proofs.Gv

namespace Go.Proofs.Gv
open Go Go.RowKit

/-- The remainder in front of digit m. -/
def sr (x y m : Nat) : Nat := x / B32 ^ m % y
theorem sr_step (x m : Nat) {y : Nat} (hy : 0 < y) : (sr x y (m + 1) * B32 + D x m) % y = sr x y m := by
  unfold sr
  rw [div_step x m, Nat.add_mod, Nat.mod_mul_mod, ← Nat.add_mod]
theorem sr_digit (x m : Nat) {y : Nat} (hy : 0 < y) : (sr x y (m + 1) * B32 + D x m) / y = D (x / y) m := by
  have h1 : sr x y (m + 1) < y := Nat.mod_lt _ hy
  have h2 := D_lt x m
  have h3 : (sr x y (m + 1) * B32 + D x m) / y < B32 := by
    rw [Nat.div_lt_iff_lt_mul hy]
    have : (sr x y (m + 1) + 1) * B32 ≤ y * B32 := Nat.mul_le_mul_right _ h1
    rw [Nat.add_mul] at this
    rw [Nat.mul_comm B32]
    omega
  rw [show D (x / y) m = x / y / B32 ^ m % B32 from rfl]
  rw [Nat.div_div_eq_div_mul, Nat.mul_comm y, ← Nat.div_div_eq_div_mul, div_step x m]
  have e : x / B32 ^ (m + 1) * B32 + D x m = (sr x y (m + 1) * B32 + D x m) + y * (x / B32 ^ (m + 1) / y * B32) := by
    unfold sr
    conv => lhs; rw [← Nat.mod_add_div (x / B32 ^ (m + 1)) y]
    rw [Nat.add_mul, Nat.mul_assoc]; omega
  rw [e, Nat.add_mul_div_left _ _ hy, Nat.add_mul_mod_self_right, Nat.mod_eq_of_lt h3]

/-- A quotient in memory and a remainder. -/
def RetShort (w : World) (q r : Nat) (e : Ending) (w' : World) : Prop :=
  ∃ A c, e = .returned (.tuple #[.slice A (nlen q) c, .int .u32 (r : Nat)]) ∧ Nt w' w'.heap.size A c q ∧ Below w.heap.size w w'

set_option maxHeartbeats 800000 in
theorem short_any (A : Option Addr) (c x y : Nat) (w : World) (hx : Nt w w.heap.size A c x) (hn : nlen x ≤ 10000000) (hy : 0 < y) (hy' : y < 4294967296) :
    Calls Try.prog 150 #[.slice A (nlen x) c, .int .u32 (y : Nat)] w (RetShort w (x / y) (x % y)) := by
  obtain ⟨lx, bx, rx⟩ := hx
  have hmk := mk_nat (nlen x) (nlen x) rfl (by omega)
  go_enter Try.func150, Try.ntmps150
  go_wp2
  clear hmk
  obtain ⟨W0, hW0⟩ : ∃ W0, w.alloc (.cells (madeCells #[.int .u32 0] (nlen x)) 68) = W0 := ⟨_, rfl⟩
  have hrow0 : W0.rowIs w.heap.size 68 (nlen x) (u32s fun _ => 0) := by rw [← hW0]; exact made_row w _
  have hb0 : Below w.heap.size w W0 := by rw [← hW0]; exact (Below.refl _ _).alloc (Nat.le_refl _) _
  rw [hW0]
  clear hW0
  go_loopw [7, 8] (fun r i wr => ∃ m : Nat, m ≤ nlen x ∧ i = .int .i64 ((m : Int) - 1) ∧ r = .int .u64 (sr x y m : Nat) ∧ wr.rowIs w.heap.size 68 (nlen x) (u32s fun j => if m ≤ j then D (x / y) j else 0) ∧ Below w.heap.size w wr)
    (fun _ i _ => (intOf i + 1).toNat)
  case atStart => exact ⟨nlen x, Nat.le_refl _, rfl, by rw [show sr x y (nlen x) = 0 by unfold sr; rw [Nat.div_eq_of_lt (lt_pow_nlen x), Nat.zero_mod]]; rfl, hrow0.congr (fun i hi => by unfold u32s; dsimp only; rw [if_neg (by omega)]), hb0⟩
  case round =>
    obtain ⟨m, hm, rfl, rfl, hrow, hb⟩ := hrel
    by_cases h0 : 0 < m
    · obtain ⟨k, rfl⟩ : ∃ k, m = k + 1 := ⟨m - 1, by omega⟩
      obtain ⟨g, rfl, hg, hcell⟩ := rx (by omega)
      have hc1 : wr.cell? ⟨g, k, none⟩ = some (.int .u32 (D x k : Nat)) := (hb.cell (p := ⟨g, k, none⟩) hg).trans (hcell k (by omega))
      clear hcell rx
      have hd1 := D_lt' x k
      have hr1 : sr x y (k + 1) < y := Nat.mod_lt _ hy
      have hoc := hrow.cell (i := k) (by omega)
      have hof := hrow.frozen k
      have hy1 : ¬ ((y : Int) = 0) := by omega
      obtain ⟨N, hN⟩ : ∃ N, N = sr x y (k + 1) * B32 + D x k := ⟨_, rfl⟩
      have hor : bits .or .u64 ((sr x y (k + 1) : Int) * 4294967296) (D x k : Nat) = (N : Nat) := by rw [or_join (by omega) hd1, hN]; rfl
      have hs1 := sr_step x k hy
      have hs2 := sr_digit x k hy
      rw [← hN] at hs1 hs2
      have hN2 : (N : Int) < 18446744073709551616 := by rw [hN]; show ((sr x y (k + 1) * 4294967296 + D x k : Nat) : Int) < _; omega
      have hq1 : (N : Int) / y < 4294967296 := by have := D_lt' (x / y) k; rw [← hs2] at this; omega
      have hq0 : 0 ≤ (N : Int) / y := by omega
      have Hs1 := Lib.hid hs1
      have Hs2 := Lib.hid hs2
      clear hs1 hs2 hN
      go_wp2
      clear hor
      go_region
      all_goals go_wp2
      go_roundw
      case rel =>
        exact ⟨k, by omega, by go_num, by rw [← Hs1.out]; rfl, (row_down hrow (by rw [← Hs2.out]; rfl)).drew, (hb.setCell (p := ⟨w.heap.size, k, none⟩) (Nat.le_refl _) _).drew⟩
      case measure => simp [intOf] <;> omega
    · obtain rfl : m = 0 := by omega
      have hz : x / y < B32 ^ nlen x := Nat.lt_of_le_of_lt (Nat.div_le_self _ _) (lt_pow_nlen x)
      have hs0 : sr x y 0 = x % y := by simp [sr]
      have hs1 : sr x y 0 < 4294967296 := by rw [hs0]; have := Nat.mod_lt x hy; omega
      have Hr := Lib.hid (row_all (G := fun _ => 0) (hrow.congr (fun i hi => by unfold u32s; dsimp only; rw [if_pos (by omega), if_pos hi])))
      have Hb := Lib.hid hb
      have Hz := Lib.hid hz
      have Hs0 := Lib.hid hs0
      clear hz hb hrow hs0
      go_wp2_with fail
      refine (trim_row Hr.out Hz.out (by omega)).mono ?_
      rintro e w' ⟨rfl, rfl⟩
      go_wp2
      go_ret2
      exact ⟨_, _, by rw [Hs0.out]; rfl, Nt.of_digits Hr.out Hz.out (by omega), Hb.out⟩

end Go.Proofs.Gv
