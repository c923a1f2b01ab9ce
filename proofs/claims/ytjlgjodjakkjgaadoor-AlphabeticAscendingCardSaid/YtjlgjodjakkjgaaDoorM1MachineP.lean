/- integer.Check. -/
import Derived.Test.YtjlgjodjakkjgaaDoorIntC
import Derived.Test.YtjlgjodjakkjgaaDoorIntNegP
import Derived.Deep.RegionHeld3
import Derived.Test.YtjlgjodjakkjgaaDoorLawKitP
import Derived.Deep.LoopGhost
import Derived.OpenShut
set_option linter.unusedSimpArgs false
set_option linter.unusedVariables false
namespace Go.Proofs.Gv
open Go Go.RowKit

/-- Sign and bytes are those of a canonical integer. -/
def Canon (na : Bool) (sa : ByteArray) : Prop := sg na (bv sa.data.toList) = na ∧ mg (bv sa.data.toList) = sa

set_option maxHeartbeats 800000 in
theorem Check_any (na : Bool) (sa : ByteArray) (w : World) (ha : sa.size ≤ 30000000) :
    Calls Tryd.prog 48 #[.agg #[.bool na, .string sa]] w fun e w' => (∃ r : Int, e = .returned (.int .i64 r) ∧ (Canon na sa → r = 0) ∧ (¬ Canon na sa → r = 1)) ∧ Below w.heap.size w w' := by
  have L1 := nlen_bv (s := sa)
  go_enter Tryd.func48, Tryd.ntmps48
  go_wp2
  obtain ⟨W, hW⟩ : ∃ W, w.alloc (.cells #[.bool na, .string sa] 38) = W := ⟨_, rfl⟩
  have HO := Lib.hid (Own.one w (.cells #[.bool na, .string sa] 38))
  rw [hW] at HO ⊢
  clear hW
  obtain ⟨a0, a1, a2, a3, a4⟩ := HO.out.blk 0 w.heap.size rfl rfl
  go_region_held3 (fun w' => w'.cell? ⟨w.heap.size, 0, none⟩ = some (.bool na) ∧ w'.cell? ⟨w.heap.size, 1, none⟩ = some (.string sa)) (go_keep) (first
    | (go_at_call 52; refine (digits_any na sa _ (by omega)).mono ?_; rintro e w1 ⟨A, c, rfl, hn, hb⟩; have HO1 := Lib.hid (HO.out.next hb); obtain ⟨k0, k1, k2, k3, k4⟩ := HO1.out.blk 0 w.heap.size rfl rfl; have Hn := Lib.hid hn; clear hb hn)
    | (go_at_call 53; refine (number_nt _ A c _ _ (by exact Hn.out.same) (by have := nlen_bv (s := sa); omega)).mono ?_; rintro e w2 ⟨rfl, hb2⟩; have HO2 := Lib.hid (HO1.out.next hb2); obtain ⟨m0, m1, m2, m3, m4⟩ := HO2.out.blk 0 w.heap.size rfl rfl; clear hb2))
  by_cases hc : Canon na sa
  · rw [eqI_iff.mpr hc]
    go_wp2
    refine bodyPost_ret (v := .int .i64 0) (by simp [results, Tryd.results48, go_sem]) rfl ?_
    exact ⟨⟨0, rfl, fun _ => rfl, fun h => absurd hc h⟩, HO2.out.below⟩
  · have t : eqI (sg na (bv sa.data.toList)) (mg (bv sa.data.toList)) na sa = false := by
      rw [Bool.eq_false_iff]; exact fun h => hc (eqI_iff.mp h)
    rw [t]
    go_wp2
    refine bodyPost_ret (v := .int .i64 1) (by simp [results, Tryd.results48, go_sem]) rfl ?_
    exact ⟨⟨1, rfl, fun h => absurd h hc, fun _ => rfl⟩, HO2.out.below⟩
end Go.Proofs.Gv

namespace Go.Proofs.Gv
open Go Go.RowKit

/-- Sign and bytes stand for the integer z. -/
structure Rp (n : Bool) (s : ByteArray) (z : Int) : Prop where
  val : iv n s = z
  sz : s.size ≤ 1000000
theorem p256 (N : Nat) : (256 : Nat) ^ N = 2 ^ (8 * N) := by rw [Nat.pow_mul]
theorem szB {x : Nat} (N : Nat) (h : x < 2 ^ (8 * N)) : (mg x).size ≤ N := size_mg (by rw [p256]; exact h)
theorem Rp.V {z : Int} (N : Nat) (h : z.natAbs < 2 ^ N) (hN : N ≤ 7900000) : Rp (sgn z) (mg z.natAbs) z :=
  ⟨iv_V z, Nat.le_trans (szB (N / 8 + 1) (Nat.lt_of_lt_of_le h (Nat.pow_le_pow_right (by decide) (by omega)))) (by omega)⟩
theorem bv_emp : bv (⟨#[]⟩ : ByteArray).data.toList = 0 := by rw [← mg_zero, bv_mg]
theorem Rp.zero : Rp false ⟨#[]⟩ 0 := ⟨by unfold iv; rw [bv_emp]; rfl, by decide⟩
theorem Rp.lt {n : Bool} {s : ByteArray} {z : Int} (h : Rp n s z) {k : Nat} (hk : s.size ≤ k) : z.natAbs < 2 ^ (8 * k) := by
  rw [← h.val, ← p256]
  exact Nat.lt_of_lt_of_le (iv_lt n s) (Nat.pow_le_pow_right (by decide) hk)
theorem Rp.neg {n : Bool} {s : ByteArray} {z : Int} (h : Rp n s z) (hz : z < 0) : n = true ∧ 0 < bv s.data.toList := by
  have hv := h.val
  unfold iv at hv
  cases n
  · simp at hv; omega
  · simp at hv; exact ⟨rfl, by omega⟩
theorem Rp.pos {n : Bool} {s : ByteArray} {z : Int} (h : Rp n s z) (hz : 0 ≤ z) : n = true → bv s.data.toList = 0 := by
  have hv := h.val
  unfold iv at hv
  rintro rfl
  simp at hv; omega

section
variable {na nb : Bool} {sa sb : ByteArray} {a b : Int}
theorem cAdd (ha : Rp na sa a) (hb : Rp nb sb b) (W : World) :
    Calls Tryd.prog 37 #[.agg #[.bool na, .string sa], .agg #[.bool nb, .string sb]] W fun e w' => e = .returned (.agg #[.bool (sgn (a + b)), .string (mg (a + b).natAbs)]) ∧ Below W.heap.size W w' := by
  have := Add_any na nb sa sb W (Nat.le_trans ha.sz (by decide)) (Nat.le_trans hb.sz (by decide))
  rwa [ha.val, hb.val] at this
theorem cMul (ha : Rp na sa a) (hb : Rp nb sb b) (W : World) :
    Calls Tryd.prog 38 #[.agg #[.bool na, .string sa], .agg #[.bool nb, .string sb]] W fun e w' => e = .returned (.agg #[.bool (sgn (a * b)), .string (mg (a * b).natAbs)]) ∧ Below W.heap.size W w' := by
  have := Mul_any na nb sa sb W (Nat.le_trans ha.sz (by decide)) (Nat.le_trans hb.sz (by decide))
  rwa [ha.val, hb.val] at this
theorem cCmp (ha : Rp na sa a) (hb : Rp nb sb b) (W : World) :
    Calls Tryd.prog 49 #[.agg #[.bool na, .string sa], .agg #[.bool nb, .string sb]] W fun e w' => e = .returned (.int .i64 (cmpI a b)) ∧ Below W.heap.size W w' := by
  have := Compare_any na nb sa sb W (Nat.le_trans ha.sz (by decide)) (Nat.le_trans hb.sz (by decide))
  rwa [ha.val, hb.val] at this
theorem canon_V (z : Int) : Canon (sgn z) (mg z.natAbs) := by
  unfold Canon
  rw [bv_mg, sg_eq]
  refine ⟨?_, rfl⟩
  congr 1
  unfold sgn
  by_cases h : z < 0
  · simp [h]; omega
  · simp [h]; omega
end
end Go.Proofs.Gv

namespace Go.Proofs.Gv
open Go Go.RowKit

theorem cOf (z : Int) (h1 : -9223372036854775808 ≤ z) (h2 : z < 9223372036854775808) (W : World) : Calls Tryd.prog 39 #[.int .i64 z] W fun e w' => e = .returned (.agg #[.bool (sgn z), .string (mg z.natAbs)]) ∧ Below W.heap.size W w' := Of_any z W h1 h2
end Go.Proofs.Gv
