/- integer.Sub, Compare: what they compute. -/
import Derived.Test.YtpnhccpfbeidlaaDoorIntB
import Derived.Test.YtpnhccpfbeidlaaDoorIntKit
import Derived.Deep.RegionHeld3
namespace Go.Proofs.Gv
open Go Go.RowKit

theorem mg_toList (n : Nat) : (mg n).toList = byt n := by rw [ByteArray.toList_eq]; exact mg_list n
theorem mg_empty : (mg 0).toList.isEmpty = true := by rw [mg_toList, byt_zero]; rfl
theorem mg_full {n : Nat} (h : n ≠ 0) : (mg n).toList.isEmpty = false := by
  rw [mg_toList]
  have := mt byt_eq_nil.1 h
  cases e : byt n with
  | nil => exact absurd e this
  | cons a l => rfl

end Go.Proofs.Gv
