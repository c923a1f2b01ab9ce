/- Add, Mul, Of at canonical integers. -/
import Derived.Test.YtpnhccpfbeidlaaDoorIntB
import Derived.Test.YtpnhccpfbeidlaaDoorIntOf
import Derived.Test.YtpnhccpfbeidlaaDoorIntEq
namespace Go.Proofs.Gv
open Go Go.RowKit

theorem Mul_V (a b : Int) (w : World) (ha : (mg a.natAbs).size ≤ 15000000) (hb : (mg b.natAbs).size ≤ 15000000) :
    Calls Tryd.prog 14 #[.agg #[.bool (sgn a), .string (mg a.natAbs)], .agg #[.bool (sgn b), .string (mg b.natAbs)]] w (RetI w (a * b)) := by
  have := Mul_any (sgn a) (sgn b) (mg a.natAbs) (mg b.natAbs) w ha hb
  rwa [iv_V, iv_V] at this
theorem mg_zero : mg 0 = ⟨#[]⟩ := by
  have h := byt_len_le 0 0 (by decide)
  have : byt 0 = [] := List.eq_nil_of_length_eq_zero (by omega)
  unfold mg; rw [this]
theorem sgn_zero : sgn 0 = false := rfl
end Go.Proofs.Gv
