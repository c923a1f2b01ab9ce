/- The contracts of integers, said of values. -/
import Derived.Test.YtlaakomeofldgaaLawKit
import Derived.Test.YtlaakomeofldgaaIntF
namespace Go.Proofs.Gv
open Go Go.RowKit

/-- Sign and bytes stand for the integer z. -/
structure Rp (n : Bool) (s : ByteArray) (z : Int) : Prop where
  val : iv n s = z
  sz : s.size ≤ 1000000
theorem p256 (N : Nat) : (256 : Nat) ^ N = 2 ^ (8 * N) := by rw [Nat.pow_mul]
theorem szB {x : Nat} (N : Nat) (h : x < 2 ^ (8 * N)) : (mg x).size ≤ N := size_mg (by rw [p256]; exact h)
theorem Rp.V {z : Int} (N : Nat) (h : z.natAbs < 2 ^ N) (hN : N ≤ 7900000) : Rp (sgn z) (mg z.natAbs) z :=
  ⟨iv_V z, Nat.le_trans (szB (N / 8 + 1) (Nat.lt_of_lt_of_le h (Nat.pow_le_pow_right (by decide) (by omega)))) (by omega)⟩
theorem bv_emp : bv (⟨#[]⟩ : ByteArray).data.toList = 0 := by rw [← mg_zero, bv_mg]
theorem Rp.zero : Rp false ⟨#[]⟩ 0 := ⟨by unfold iv; rw [bv_emp]; rfl, by decide⟩
theorem Rp.abs {n : Bool} {s : ByteArray} {z : Int} (h : Rp n s z) : z.natAbs = bv s.data.toList := by rw [← h.val, iv_abs]
theorem Rp.lt {n : Bool} {s : ByteArray} {z : Int} (h : Rp n s z) {k : Nat} (hk : s.size ≤ k) : z.natAbs < 2 ^ (8 * k) := by
  rw [← h.val, ← p256]
  exact Nat.lt_of_lt_of_le (iv_lt n s) (Nat.pow_le_pow_right (by decide) hk)
theorem Rp.pos {n : Bool} {s : ByteArray} {z : Int} (h : Rp n s z) (hz : 0 ≤ z) : n = true → bv s.data.toList = 0 := by
  have hv := h.val
  unfold iv at hv
  rintro rfl
  simp at hv; omega

section
variable {na nb : Bool} {sa sb : ByteArray} {a b : Int}
theorem cDiv {q r : Int} (ha : Rp na sa a) (hb : Rp nb sb b) (hd : DivSpec a b q r) (h0 : b ≠ 0) (W : World) :
    Calls Try.prog 68 #[.agg #[.bool na, .string sa], .agg #[.bool nb, .string sb]] W fun e w' => e = .returned (.tuple #[.agg #[.bool (sgn q), .string (mg q.natAbs)], .agg #[.bool (sgn r), .string (mg r.natAbs)], .int .i64 0]) ∧ Below W.heap.size W w' := by
  have := Div_any na nb sa sb W (Nat.le_trans ha.sz (by decide)) (Nat.le_trans hb.sz (by decide)) (by rw [← hb.abs]; omega)
  rw [ha.val, hb.val] at this
  refine this.mono ?_
  rintro e w' ⟨q', r', rfl, hd', hbl⟩
  obtain ⟨rfl, rfl⟩ := div_uniq hd hd'
  exact ⟨rfl, hbl⟩
theorem canon_V (z : Int) : Canon (sgn z) (mg z.natAbs) := by
  unfold Canon
  rw [bv_mg, sg_eq]
  refine ⟨?_, rfl⟩
  congr 1
  unfold sgn
  by_cases h : z < 0
  · simp [h]; omega
  · simp [h]; omega
theorem cCheck (z : Int) (hz : (mg z.natAbs).size ≤ 1000000) (W : World) :
    Calls Try.prog 67 #[.agg #[.bool (sgn z), .string (mg z.natAbs)]] W fun e w' => e = .returned (.int .i64 0) ∧ Below W.heap.size W w' := by
  refine (Check_any (sgn z) (mg z.natAbs) W (Nat.le_trans hz (by decide))).mono ?_
  rintro e w' ⟨⟨r, rfl, h0, _⟩, hb⟩
  rw [h0 (canon_V z)]
  exact ⟨rfl, hb⟩
end
end Go.Proofs.Gv
