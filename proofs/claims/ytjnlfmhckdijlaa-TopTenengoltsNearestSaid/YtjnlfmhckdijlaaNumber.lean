/- integer.number: the canonical integer with an absolute value and a sign. -/
import Derived.Test.YtjnlfmhckdijlaaRows
import Derived.Test.YtjnlfmhckdijlaaKit
import Derived.Test.YtjnlfmhckdijlaaBytes
set_option linter.unusedSimpArgs false
set_option linter.unusedVariables false
namespace Go.Proofs.Gv
open Go Go.RowKit

/-- The bytes of an absolute value. -/
def mg (n : Nat) : ByteArray := ⟨(byt n).toArray⟩
/-- The first bytes of x: those in front of byte q of digit i. -/
def hd (x i q : Nat) : Nat := x / B32 ^ i / 256 ^ q
/-- The byte that comes next. -/
def nb (x i k : Nat) : UInt8 := UInt8.ofNat (hd x i k % 256)
end Go.Proofs.Gv
