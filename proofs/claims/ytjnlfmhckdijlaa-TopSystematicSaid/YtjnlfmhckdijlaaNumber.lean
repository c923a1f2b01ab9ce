/- integer.number: the canonical integer with an absolute value and a sign. -/
import Derived.Test.YtjnlfmhckdijlaaTrim
import Derived.Test.YtjnlfmhckdijlaaBytes
set_option linter.unusedSimpArgs false
set_option linter.unusedVariables false
namespace Go.Proofs.Gv
open Go Go.RowKit

/-- The bytes of an absolute value. -/
def mg (n : Nat) : ByteArray := ⟨(byt n).toArray⟩
/-- The first bytes of x: those in front of byte q of digit i. -/
def hd (x i q : Nat) : Nat := x / B32 ^ i / 256 ^ q
theorem Try.info5z : (Try.prog.info? 5).map (fun i => (i.zero, i.size, i.bytes)) = some (some (.int .u8 0), 1, 1) := by kernel_rfl

/-- The byte that comes next. -/
def nb (x i k : Nat) : UInt8 := UInt8.ofNat (hd x i k % 256)
end Go.Proofs.Gv
