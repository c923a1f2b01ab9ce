/- integer.Bits. -/
import Derived.Test.YtpnhccpfbeidlaaDoorIntOf
import Derived.Test.YtpnhccpfbeidlaaDoorIntC
import Derived.Test.YtpnhccpfbeidlaaDoorLength
namespace Go.Proofs.Gv
open Go Go.RowKit

set_option maxHeartbeats 800000 in
theorem Bits_any (na : Bool) (sa : ByteArray) (w : World) (ha : sa.size ≤ 30000000) :
    Calls Tryd.prog 20 #[.agg #[.bool na, .string sa]] w fun e w' => e = .returned (.int .i64 (bl (bv sa.data.toList) : Nat)) ∧ Below w.heap.size w w' := by
  have L1 := nlen_bv (s := sa)
  go_enter Tryd.func20, Tryd.ntmps20
  go_wp2_with fail
  have HO := Lib.hid (Own.one w (.cells #[.bool na, .string sa] 23))
  refine (digits_any na sa _ (by omega)).mono ?_
  rintro e w1 ⟨A, c, rfl, hn, hb⟩
  have HO1 := Lib.hid (HO.out.next hb)
  have Hn := Lib.hid hn
  clear hn hb
  go_wp2_with fail
  refine (length_any A c _ _ (by exact Hn.out.same) (by omega)).mono ?_
  rintro e w2 ⟨rfl, rfl⟩
  go_wp2
  go_ret
  exact ⟨rfl, HO1.out.below⟩
end Go.Proofs.Gv
