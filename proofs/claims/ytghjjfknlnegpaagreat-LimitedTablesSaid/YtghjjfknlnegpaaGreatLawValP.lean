/- integer.Check. -/
import Derived.Test.YtghjjfknlnegpaaGreatIntKit
import Derived.Test.YtghjjfknlnegpaaGreatRows
import Derived.Test.YtghjjfknlnegpaaGreatKitP
import Derived.Deep.RegionHeld3
import Derived.Test.YtghjjfknlnegpaaGreatIntEqP
import Derived.Test.YtghjjfknlnegpaaGreatLawKit
set_option linter.unusedSimpArgs false
set_option linter.unusedVariables false
namespace Go.Proofs.Gv
open Go Go.RowKit

/-- Sign and bytes are those of a canonical integer. -/
def Canon (na : Bool) (sa : ByteArray) : Prop := sg na (bv sa.data.toList) = na ∧ mg (bv sa.data.toList) = sa

end Go.Proofs.Gv

namespace Go.Proofs.Gv
open Go Go.RowKit

/-- Sign and bytes stand for the integer z. -/
structure Rp (n : Bool) (s : ByteArray) (z : Int) : Prop where
  val : iv n s = z
  sz : s.size ≤ 1000000
theorem p256 (N : Nat) : (256 : Nat) ^ N = 2 ^ (8 * N) := by rw [Nat.pow_mul]
theorem szB {x : Nat} (N : Nat) (h : x < 2 ^ (8 * N)) : (mg x).size ≤ N := size_mg (by rw [p256]; exact h)
theorem Rp.V {z : Int} (N : Nat) (h : z.natAbs < 2 ^ N) (hN : N ≤ 7900000) : Rp (sgn z) (mg z.natAbs) z :=
  ⟨iv_V z, Nat.le_trans (szB (N / 8 + 1) (Nat.lt_of_lt_of_le h (Nat.pow_le_pow_right (by decide) (by omega)))) (by omega)⟩
theorem bv_emp : bv (⟨#[]⟩ : ByteArray).data.toList = 0 := by rw [← mg_zero, bv_mg]
theorem Rp.zero : Rp false ⟨#[]⟩ 0 := ⟨by unfold iv; rw [bv_emp]; rfl, by decide⟩
theorem Rp.lt {n : Bool} {s : ByteArray} {z : Int} (h : Rp n s z) {k : Nat} (hk : s.size ≤ k) : z.natAbs < 2 ^ (8 * k) := by
  rw [← h.val, ← p256]
  exact Nat.lt_of_lt_of_le (iv_lt n s) (Nat.pow_le_pow_right (by decide) hk)
theorem Rp.pos {n : Bool} {s : ByteArray} {z : Int} (h : Rp n s z) (hz : 0 ≤ z) : n = true → bv s.data.toList = 0 := by
  have hv := h.val
  unfold iv at hv
  rintro rfl
  simp at hv; omega

section
variable {na nb : Bool} {sa sb : ByteArray} {a b : Int}
end
end Go.Proofs.Gv
