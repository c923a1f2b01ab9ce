/- Add, Mul, Of at canonical integers. -/
import Derived.Test.YtlaakomeofldgaaIntB
import Derived.Test.YtlaakomeofldgaaIntOf
import Derived.Test.YtlaakomeofldgaaIntEq
namespace Go.Proofs.Gv
open Go Go.RowKit

theorem Add_V (a b : Int) (w : World) (ha : (mg a.natAbs).size ≤ 15000000) (hb : (mg b.natAbs).size ≤ 15000000) :
    Calls Try.prog 44 #[.agg #[.bool (sgn a), .string (mg a.natAbs)], .agg #[.bool (sgn b), .string (mg b.natAbs)]] w (RetI w (a + b)) := by
  have := Add_any (sgn a) (sgn b) (mg a.natAbs) (mg b.natAbs) w ha hb
  rwa [iv_V, iv_V] at this
theorem Mul_V (a b : Int) (w : World) (ha : (mg a.natAbs).size ≤ 15000000) (hb : (mg b.natAbs).size ≤ 15000000) :
    Calls Try.prog 63 #[.agg #[.bool (sgn a), .string (mg a.natAbs)], .agg #[.bool (sgn b), .string (mg b.natAbs)]] w (RetI w (a * b)) := by
  have := Mul_any (sgn a) (sgn b) (mg a.natAbs) (mg b.natAbs) w ha hb
  rwa [iv_V, iv_V] at this
/-- Canonical bytes of a number below a power of 2. -/
theorem size_pow {z : Int} {k : Nat} (h : z.natAbs < 256 ^ k) : (mg z.natAbs).size ≤ k := size_mg h

theorem mg_zero : mg 0 = ⟨#[]⟩ := by
  have h := byt_len_le 0 0 (by decide)
  have : byt 0 = [] := List.eq_nil_of_length_eq_zero (by omega)
  unfold mg; rw [this]
end Go.Proofs.Gv
