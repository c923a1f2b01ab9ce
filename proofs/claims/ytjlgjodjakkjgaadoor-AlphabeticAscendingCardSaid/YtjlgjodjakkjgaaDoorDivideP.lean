/- integer.Mul. -/
import Derived.Test.YtjlgjodjakkjgaaDoorIntKit
import Derived.Test.YtjlgjodjakkjgaaDoorMul
import Derived.Deep.RegionHeld3
import Derived.RegionTactic
import Derived.Test.YtjlgjodjakkjgaaDoorDivMathP
import Derived.Test.YtjlgjodjakkjgaaDoorCompareP
import Derived.Test.YtjlgjodjakkjgaaDoorShelf
import Derived.Shelf.Small.Bits
import Derived.Test.YtjlgjodjakkjgaaDoorKit
set_option linter.unusedSimpArgs false
set_option linter.unusedVariables false
namespace Go.Proofs.Gv
open Go Go.RowKit

theorem mul_sign (na nb : Bool) (x y : Nat) : (if na then -(x : Int) else x) * (if nb then -(y : Int) else y) = if !(na == nb) then -((x * y : Nat) : Int) else ((x * y : Nat) : Int) := by
  cases na <;> cases nb <;> simp [Int.neg_mul, Int.mul_neg]

set_option maxHeartbeats 1600000 in
theorem Mul_any (na nb : Bool) (sa sb : ByteArray) (w : World) (ha : sa.size ≤ 15000000) (hb : sb.size ≤ 15000000) :
    Calls Tryd.prog 38 #[.agg #[.bool na, .string sa], .agg #[.bool nb, .string sb]] w (RetI w (iv na sa * iv nb sb)) := by
  have l1 := nlen_bv (s := sa)
  have l2 := nlen_bv (s := sb)
  have l3 : nlen (bv sa.data.toList * bv sb.data.toList) ≤ nlen (bv sa.data.toList) + nlen (bv sb.data.toList) := nlen_le_iff.2 (mul_lt_pow (lt_pow_nlen _) (lt_pow_nlen _))
  go_enter Tryd.func38, Tryd.ntmps38
  go_wp2
  obtain ⟨W, hW⟩ : ∃ W, ((w.alloc (.cells #[.bool na, .string sa] 38)).alloc (.cells #[.bool nb, .string sb] 38)).alloc (.cells #[.bool false, .string ⟨#[]⟩] 38) = W := ⟨_, rfl⟩
  have HO := Lib.hid (Own.three w (.cells #[.bool na, .string sa] 38) (.cells #[.bool nb, .string sb] 38) (.cells #[.bool false, .string ⟨#[]⟩] 38))
  rw [hW] at HO ⊢
  clear hW
  obtain ⟨a0, a1, a2, a3, a4⟩ := HO.out.blk 0 w.heap.size rfl rfl
  obtain ⟨b0, b1, b2, b3, b4⟩ := HO.out.blk 1 (w.heap.size + 1) rfl rfl
  obtain ⟨c0, c1, c2, c3, c4⟩ := HO.out.blk 2 (w.heap.size + 1 + 1) rfl rfl
  have ne1 : ¬ w.heap.size = w.heap.size + 1 + 1 := by omega
  have ne2 : ¬ w.heap.size + 1 + 1 = w.heap.size := by omega
  go_region_held3 (fun w' => w'.cell? ⟨w.heap.size, 0, none⟩ = some (.bool na) ∧ w'.cell? ⟨w.heap.size, 1, none⟩ = some (.string sa) ∧ w'.cell? ⟨w.heap.size + 1, 0, none⟩ = some (.bool nb) ∧ w'.cell? ⟨w.heap.size + 1, 1, none⟩ = some (.string sb)) (go_keep) (first
    | (go_at_call_of 52 (Value.agg #[.bool na, .string sa]); refine (digits_any na sa _ (by omega)).mono ?_; rintro e w1 ⟨A, c, rfl, hn, hb⟩; have HO1 := Lib.hid (HO.out.next hb); obtain ⟨k0, k1, k2, k3, k4⟩ := HO1.out.blk 0 w.heap.size rfl rfl; obtain ⟨l0, l1, l2, l3, l4⟩ := HO1.out.blk 1 (w.heap.size + 1) rfl rfl; have Hn1 := Lib.hid hn; clear hb hn)
    | (go_at_call_of 52 (Value.agg #[.bool nb, .string sb]); refine (digits_any nb sb _ (by omega)).mono ?_; rintro e w2 ⟨A', c', rfl, hn, hb⟩; have HO2 := Lib.hid (HO1.out.next hb); obtain ⟨m0, m1, m2, m3, m4⟩ := HO2.out.blk 0 w.heap.size rfl rfl; obtain ⟨n0, n1, n2, n3, n4⟩ := HO2.out.blk 1 (w.heap.size + 1) rfl rfl; have Hn2 := Lib.hid hn; have Hn3 := Lib.hid (Hn1.out.next hb); clear hb hn)
    | (go_at_call 57; refine (multiply_any A A' c c' _ _ _ Hn3.out Hn2.out (by omega) (by omega)).mono ?_; rintro e w3 ⟨A3, c3, rfl, hn, hb⟩; have HO3 := Lib.hid (HO2.out.next hb); obtain ⟨p0, p1, p2, p3, p4⟩ := HO3.out.blk 0 w.heap.size rfl rfl; obtain ⟨q0, q1, q2, q3, q4⟩ := HO3.out.blk 1 (w.heap.size + 1) rfl rfl; have Hn4 := Lib.hid hn; clear hb hn)
    | (go_at_call 53; refine (number_nt _ A3 c3 _ _ Hn4.out (by omega)).mono ?_; rintro e w4 ⟨rfl, hb2⟩; have HO4 := Lib.hid (HO3.out.next hb2); obtain ⟨r0, r1, r2, r3, r4⟩ := HO4.out.blk 0 w.heap.size rfl rfl; obtain ⟨s0, s1, s2, s3, s4⟩ := HO4.out.blk 1 (w.heap.size + 1) rfl rfl; obtain ⟨j0, j1, j2, j3, j4⟩ := HO4.out.blk 2 (w.heap.size + 1 + 1) rfl rfl; clear hb2))
  all_goals go_wp2
  refine bodyPost_ret (v := .agg #[.bool (sg (!(na == nb)) (bv sa.data.toList * bv sb.data.toList)), .string (mg (bv sa.data.toList * bv sb.data.toList))]) (by simp [results, Tryd.results38, go_sem, j0, j1]) rfl ?_
  refine RetInt.toI ⟨rfl, ?_⟩ (by unfold iv; exact mul_sign na nb _ _)
  exact HO4.out.stored (w.heap.size + 1 + 1) (by omega) _ _
end Go.Proofs.Gv

namespace Go.Proofs.Gv
open Go Go.RowKit

/-- The carry into digit k of x * p. -/
def hc (x p k : Nat) : Nat := x % B32 ^ k * p / B32 ^ k
end Go.Proofs.Gv

namespace Go.Proofs.Gv
open Go Go.RowKit

theorem Below.dr {B : Nat} {w w' : World} (h : Dr w w') : Below B w w' := by
  obtain ⟨n, rfl⟩ := h
  exact ⟨rfl, rfl, rfl, Nat.le_refl _, fun _ _ => rfl⟩

theorem Nt.later {w0 w1 w2 : World} {A : Option Addr} {c x : Nat} (h : Nt w0 w0.heap.size A c x) (hb : Below w0.heap.size w0 w1) (hd : Dr w1 w2) : Nt w2 w2.heap.size A c x :=
  h.next (hb.trans (Below.dr hd))
theorem Dr.self (w : World) : Dr w w := Dr.refl w
theorem Dr.step (w : World) : Dr w w.drew := ⟨1, rfl⟩

end Go.Proofs.Gv
