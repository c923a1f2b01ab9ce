/-
  No cell of these rows narrows 'for every input' (looked for: loops, veiled, ifaces, maps, wideKeys, modest, calm, conditions, laid).
  DERIVED. THE GIVEN ROWS OF THIS SEAT. 9 by the template 'for every input the law returns true; each argument reads behind the call as it read before'; 0 by the template 'total and deterministic' (their statements: YtpnhccpfbeidlaaTotals.lean).
  GIVEN WITH THE SEED: the statements are not yours to turn. If you find one false, say at which input.
  Laid BY PROGRAM, IN A SANDBOX (cutbox-rows.mjs): the forced cells as the released guide's own fill.sh prints them over the translation 71b303fc67a84f1b… (all of the seat's roots in one cut). By AI agents, Wed Nov 11 2026. No macro, syntax, notation, axiom, sorry.
-/
import Derived.Test.YtpnhccpfbeidlaaChecked
import GoSem.Claim
import GoSem.ClaimJoined
import GoSem.ClaimMapViews
import Derived.JoinedTies
import Derived.KernelRfl
namespace Go.Proofs.Ytpnhccpfbeidlaa
/- THE CELL 'sum', in the pinned program and in every row, IS THE sha256 OF THE DUMP (.gsa) THAT YtpnhccpfbeidlaaProg.lean LOADS. Nothing in Lean hashes anything: it is a label: what it is worth is what the hold of that sum in a sandbox is worth. -/
noncomputable def Try.pinned : Pinned := { name := "ytpnhccpfbeidlaa", sum := "71b303fc67a84f1bbe4bea0aaf05d1fa7536c39e3611263c2faf1b1999a00c53", checked := Try.checked }
namespace Rows
def none {H : Type} : Left H := { results := [], args := [] }

/-- 'groovelaw01.IntegerSums': WHATEVER THE INPUT: true; the input reads as it did. -/
def integerSumsSpec : ChangeSpec := { name := "integerSums", fn := fun _ => fun
  | [d1, d2] => { results := [.lit (.bool true)], args := [d1, d2] }
  | _ => none }
def integerSumsRow : OpenClaim := { program := "ytpnhccpfbeidlaa", sum := "71b303fc67a84f1bbe4bea0aaf05d1fa7536c39e3611263c2faf1b1999a00c53", func := "groove/groovelaw01.IntegerSums", spec := "integerSums", inPlace := ["internal/abi.NoEscape"], unfollowed := true, recurses := true, apart := false }
def IntegerSumsSaid : Prop := integerSumsRow.holds Try.pinned (OpenSpec.ofChange integerSumsSpec)

/-- ITS FALSE NEIGHBOUR: 'it returns false'. Refute it at one input. -/
def integerSumsWrong : ChangeSpec := { name := "integerSums", fn := fun _ => fun
  | [d1, d2] => { results := [.lit (.bool false)], args := [d1, d2] }
  | _ => none }
def IntegerSumsWrongFalsely : Prop := integerSumsRow.holds Try.pinned (OpenSpec.ofChange integerSumsWrong)

/-- 'groovelaw01.IntegerQuotients': WHATEVER THE INPUT: true; the input reads as it did. -/
def integerQuotientsSpec : ChangeSpec := { name := "integerQuotients", fn := fun _ => fun
  | [d1, d2, d3] => { results := [.lit (.bool true)], args := [d1, d2, d3] }
  | _ => none }
def integerQuotientsRow : OpenClaim := { program := "ytpnhccpfbeidlaa", sum := "71b303fc67a84f1bbe4bea0aaf05d1fa7536c39e3611263c2faf1b1999a00c53", func := "groove/groovelaw01.IntegerQuotients", spec := "integerQuotients", inPlace := ["internal/abi.NoEscape"], unfollowed := true, recurses := true, apart := false }
def IntegerQuotientsSaid : Prop := integerQuotientsRow.holds Try.pinned (OpenSpec.ofChange integerQuotientsSpec)

/-- ITS FALSE NEIGHBOUR: 'it returns false'. Refute it at one input. -/
def integerQuotientsWrong : ChangeSpec := { name := "integerQuotients", fn := fun _ => fun
  | [d1, d2, d3] => { results := [.lit (.bool false)], args := [d1, d2, d3] }
  | _ => none }
def IntegerQuotientsWrongFalsely : Prop := integerQuotientsRow.holds Try.pinned (OpenSpec.ofChange integerQuotientsWrong)

/-- 'groovelaw01.IntegerDivides': WHATEVER THE INPUT: true; the input reads as it did. -/
def integerDividesSpec : ChangeSpec := { name := "integerDivides", fn := fun _ => fun
  | [d1, d2] => { results := [.lit (.bool true)], args := [d1, d2] }
  | _ => none }
def integerDividesRow : OpenClaim := { program := "ytpnhccpfbeidlaa", sum := "71b303fc67a84f1bbe4bea0aaf05d1fa7536c39e3611263c2faf1b1999a00c53", func := "groove/groovelaw01.IntegerDivides", spec := "integerDivides", inPlace := ["internal/abi.NoEscape"], unfollowed := true, recurses := true, apart := false }
def IntegerDividesSaid : Prop := integerDividesRow.holds Try.pinned (OpenSpec.ofChange integerDividesSpec)

/-- ITS FALSE NEIGHBOUR: 'it returns false'. Refute it at one input. -/
def integerDividesWrong : ChangeSpec := { name := "integerDivides", fn := fun _ => fun
  | [d1, d2] => { results := [.lit (.bool false)], args := [d1, d2] }
  | _ => none }
def IntegerDividesWrongFalsely : Prop := integerDividesRow.holds Try.pinned (OpenSpec.ofChange integerDividesWrong)

/-- 'groovelaw01.IntegerRoots': WHATEVER THE INPUT: true; the input reads as it did. -/
def integerRootsSpec : ChangeSpec := { name := "integerRoots", fn := fun _ => fun
  | [d1, d2, d3] => { results := [.lit (.bool true)], args := [d1, d2, d3] }
  | _ => none }
def integerRootsRow : OpenClaim := { program := "ytpnhccpfbeidlaa", sum := "71b303fc67a84f1bbe4bea0aaf05d1fa7536c39e3611263c2faf1b1999a00c53", func := "groove/groovelaw01.IntegerRoots", spec := "integerRoots", inPlace := ["internal/abi.NoEscape"], unfollowed := true, recurses := true, apart := false }
def IntegerRootsSaid : Prop := integerRootsRow.holds Try.pinned (OpenSpec.ofChange integerRootsSpec)

/-- ITS FALSE NEIGHBOUR: 'it returns false'. Refute it at one input. -/
def integerRootsWrong : ChangeSpec := { name := "integerRoots", fn := fun _ => fun
  | [d1, d2, d3] => { results := [.lit (.bool false)], args := [d1, d2, d3] }
  | _ => none }
def IntegerRootsWrongFalsely : Prop := integerRootsRow.holds Try.pinned (OpenSpec.ofChange integerRootsWrong)

/-- 'groovelaw01.IntegerOrder': WHATEVER THE INPUT: true; the input reads as it did. -/
def integerOrderSpec : ChangeSpec := { name := "integerOrder", fn := fun _ => fun
  | [d1, d2, d3] => { results := [.lit (.bool true)], args := [d1, d2, d3] }
  | _ => none }
def integerOrderRow : OpenClaim := { program := "ytpnhccpfbeidlaa", sum := "71b303fc67a84f1bbe4bea0aaf05d1fa7536c39e3611263c2faf1b1999a00c53", func := "groove/groovelaw01.IntegerOrder", spec := "integerOrder", inPlace := ["internal/abi.NoEscape"], unfollowed := true, recurses := true, apart := false }
def IntegerOrderSaid : Prop := integerOrderRow.holds Try.pinned (OpenSpec.ofChange integerOrderSpec)

/-- ITS FALSE NEIGHBOUR: 'it returns false'. Refute it at one input. -/
def integerOrderWrong : ChangeSpec := { name := "integerOrder", fn := fun _ => fun
  | [d1, d2, d3] => { results := [.lit (.bool false)], args := [d1, d2, d3] }
  | _ => none }
def IntegerOrderWrongFalsely : Prop := integerOrderRow.holds Try.pinned (OpenSpec.ofChange integerOrderWrong)

/-- 'groovelaw01.IntegerRing': WHATEVER THE INPUT: true; the input reads as it did. -/
def integerRingSpec : ChangeSpec := { name := "integerRing", fn := fun _ => fun
  | [d1, d2, d3] => { results := [.lit (.bool true)], args := [d1, d2, d3] }
  | _ => none }
def integerRingRow : OpenClaim := { program := "ytpnhccpfbeidlaa", sum := "71b303fc67a84f1bbe4bea0aaf05d1fa7536c39e3611263c2faf1b1999a00c53", func := "groove/groovelaw01.IntegerRing", spec := "integerRing", inPlace := ["internal/abi.NoEscape"], unfollowed := true, recurses := true, apart := false }
def IntegerRingSaid : Prop := integerRingRow.holds Try.pinned (OpenSpec.ofChange integerRingSpec)

/-- ITS FALSE NEIGHBOUR: 'it returns false'. Refute it at one input. -/
def integerRingWrong : ChangeSpec := { name := "integerRing", fn := fun _ => fun
  | [d1, d2, d3] => { results := [.lit (.bool false)], args := [d1, d2, d3] }
  | _ => none }
def IntegerRingWrongFalsely : Prop := integerRingRow.holds Try.pinned (OpenSpec.ofChange integerRingWrong)

/-- 'groovelaw01.IntegerDivisors': WHATEVER THE INPUT: true; the input reads as it did. -/
def integerDivisorsSpec : ChangeSpec := { name := "integerDivisors", fn := fun _ => fun
  | [d1, d2, d3] => { results := [.lit (.bool true)], args := [d1, d2, d3] }
  | _ => none }
def integerDivisorsRow : OpenClaim := { program := "ytpnhccpfbeidlaa", sum := "71b303fc67a84f1bbe4bea0aaf05d1fa7536c39e3611263c2faf1b1999a00c53", func := "groove/groovelaw01.IntegerDivisors", spec := "integerDivisors", inPlace := ["internal/abi.NoEscape"], unfollowed := true, recurses := true, apart := false }
def IntegerDivisorsSaid : Prop := integerDivisorsRow.holds Try.pinned (OpenSpec.ofChange integerDivisorsSpec)

/-- ITS FALSE NEIGHBOUR: 'it returns false'. Refute it at one input. -/
def integerDivisorsWrong : ChangeSpec := { name := "integerDivisors", fn := fun _ => fun
  | [d1, d2, d3] => { results := [.lit (.bool false)], args := [d1, d2, d3] }
  | _ => none }
def IntegerDivisorsWrongFalsely : Prop := integerDivisorsRow.holds Try.pinned (OpenSpec.ofChange integerDivisorsWrong)

/-- 'groovelaw01.IntegerMachine': WHATEVER THE INPUT: true; the input reads as it did. -/
def integerMachineSpec : ChangeSpec := { name := "integerMachine", fn := fun _ => fun
  | [d1, d2] => { results := [.lit (.bool true)], args := [d1, d2] }
  | _ => none }
def integerMachineRow : OpenClaim := { program := "ytpnhccpfbeidlaa", sum := "71b303fc67a84f1bbe4bea0aaf05d1fa7536c39e3611263c2faf1b1999a00c53", func := "groove/groovelaw01.IntegerMachine", spec := "integerMachine", inPlace := ["internal/abi.NoEscape"], unfollowed := true, recurses := true, apart := false }
def IntegerMachineSaid : Prop := integerMachineRow.holds Try.pinned (OpenSpec.ofChange integerMachineSpec)

/-- ITS FALSE NEIGHBOUR: 'it returns false'. Refute it at one input. -/
def integerMachineWrong : ChangeSpec := { name := "integerMachine", fn := fun _ => fun
  | [d1, d2] => { results := [.lit (.bool false)], args := [d1, d2] }
  | _ => none }
def IntegerMachineWrongFalsely : Prop := integerMachineRow.holds Try.pinned (OpenSpec.ofChange integerMachineWrong)

/-- 'groovelaw01.IntegerBasics': WHATEVER THE INPUT: true; the input reads as it did. -/
def integerBasicsSpec : ChangeSpec := { name := "integerBasics", fn := fun _ => fun
  | [d1, d2, d3] => { results := [.lit (.bool true)], args := [d1, d2, d3] }
  | _ => none }
def integerBasicsRow : OpenClaim := { program := "ytpnhccpfbeidlaa", sum := "71b303fc67a84f1bbe4bea0aaf05d1fa7536c39e3611263c2faf1b1999a00c53", func := "groove/groovelaw01.IntegerBasics", spec := "integerBasics", inPlace := ["internal/abi.NoEscape"], unfollowed := true, recurses := true, apart := false }
def IntegerBasicsSaid : Prop := integerBasicsRow.holds Try.pinned (OpenSpec.ofChange integerBasicsSpec)

/-- ITS FALSE NEIGHBOUR: 'it returns false'. Refute it at one input. -/
def integerBasicsWrong : ChangeSpec := { name := "integerBasics", fn := fun _ => fun
  | [d1, d2, d3] => { results := [.lit (.bool false)], args := [d1, d2, d3] }
  | _ => none }
def IntegerBasicsWrongFalsely : Prop := integerBasicsRow.holds Try.pinned (OpenSpec.ofChange integerBasicsWrong)

/- THE SECOND FORM. 'bulk': how many values and letters a reading holds, each counted each time it is reached (what is shared counts as often as it is met; a slice's spare places count too). A statement '..UptoSaid' is the law's where the arguments, and the package variables that the reading takes, are together of bulk at most 1048576: NARROWER than '..Said'. Prove '..Said' where nothing that the law and all that it calls make is longer than what came in: it says more and counts as full. Else prove '..UptoSaid'. A law counts once. -/
mutual
def uptoBulk {H : Type} : DataW H → Nat
  | .lit (.string bytes) => bytes.length + 1
  | .lit _ => 1
  | .nil => 1
  | .ptr d => uptoBulk d + 1
  | .slice elems spare => uptoBulkAll elems + uptoBulkAll spare + 1
  | .agg parts => uptoBulkAll parts + 1
  | .iface _ d => uptoBulk d + 1
  | .map entries => uptoBulkEntries entries + 1
  | .held _ => 1
def uptoBulkAll {H : Type} : List (DataW H) → Nat
  | [] => 0
  | d :: r => uptoBulk d + uptoBulkAll r
def uptoBulkEntries {H : Type} : List (Lit × DataW H) → Nat
  | [] => 0
  | x :: r => uptoBulkEntry x + uptoBulkEntries r
def uptoBulkEntry {H : Type} : Lit × DataW H → Nat
  | (.string bytes, d) => bytes.length + uptoBulk d + 1
  | (_, d) => uptoBulk d + 1
 end
def uptoSmall : (H : Type) → List (DataW H) → Bool := fun _ ds => decide (uptoBulkAll ds ≤ 1048576)
def OpenSpec.upto (s : _root_.Go.ChangeSpec) : _root_.Go.OpenSpec := { _root_.Go.OpenSpec.ofChange s with cond := some uptoSmall }

/-- 'groovelaw01.IntegerSums', WHERE WHAT IT READS IS OF BULK AT MOST 1048576: true; the input reads as it did. -/
def integerSumsUptoRow : OpenClaim := { program := "ytpnhccpfbeidlaa", sum := "71b303fc67a84f1bbe4bea0aaf05d1fa7536c39e3611263c2faf1b1999a00c53", func := "groove/groovelaw01.IntegerSums", spec := "integerSums", inPlace := ["internal/abi.NoEscape"], unfollowed := true, recurses := true, apart := false, narrowed := true }
def IntegerSumsUptoSaid : Prop := integerSumsUptoRow.holds Try.pinned (OpenSpec.upto integerSumsSpec)

/-- 'groovelaw01.IntegerQuotients', WHERE WHAT IT READS IS OF BULK AT MOST 1048576: true; the input reads as it did. -/
def integerQuotientsUptoRow : OpenClaim := { program := "ytpnhccpfbeidlaa", sum := "71b303fc67a84f1bbe4bea0aaf05d1fa7536c39e3611263c2faf1b1999a00c53", func := "groove/groovelaw01.IntegerQuotients", spec := "integerQuotients", inPlace := ["internal/abi.NoEscape"], unfollowed := true, recurses := true, apart := false, narrowed := true }
def IntegerQuotientsUptoSaid : Prop := integerQuotientsUptoRow.holds Try.pinned (OpenSpec.upto integerQuotientsSpec)

/-- 'groovelaw01.IntegerDivides', WHERE WHAT IT READS IS OF BULK AT MOST 1048576: true; the input reads as it did. -/
def integerDividesUptoRow : OpenClaim := { program := "ytpnhccpfbeidlaa", sum := "71b303fc67a84f1bbe4bea0aaf05d1fa7536c39e3611263c2faf1b1999a00c53", func := "groove/groovelaw01.IntegerDivides", spec := "integerDivides", inPlace := ["internal/abi.NoEscape"], unfollowed := true, recurses := true, apart := false, narrowed := true }
def IntegerDividesUptoSaid : Prop := integerDividesUptoRow.holds Try.pinned (OpenSpec.upto integerDividesSpec)

/-- 'groovelaw01.IntegerRoots', WHERE WHAT IT READS IS OF BULK AT MOST 1048576: true; the input reads as it did. -/
def integerRootsUptoRow : OpenClaim := { program := "ytpnhccpfbeidlaa", sum := "71b303fc67a84f1bbe4bea0aaf05d1fa7536c39e3611263c2faf1b1999a00c53", func := "groove/groovelaw01.IntegerRoots", spec := "integerRoots", inPlace := ["internal/abi.NoEscape"], unfollowed := true, recurses := true, apart := false, narrowed := true }
def IntegerRootsUptoSaid : Prop := integerRootsUptoRow.holds Try.pinned (OpenSpec.upto integerRootsSpec)

/-- 'groovelaw01.IntegerOrder', WHERE WHAT IT READS IS OF BULK AT MOST 1048576: true; the input reads as it did. -/
def integerOrderUptoRow : OpenClaim := { program := "ytpnhccpfbeidlaa", sum := "71b303fc67a84f1bbe4bea0aaf05d1fa7536c39e3611263c2faf1b1999a00c53", func := "groove/groovelaw01.IntegerOrder", spec := "integerOrder", inPlace := ["internal/abi.NoEscape"], unfollowed := true, recurses := true, apart := false, narrowed := true }
def IntegerOrderUptoSaid : Prop := integerOrderUptoRow.holds Try.pinned (OpenSpec.upto integerOrderSpec)

/-- 'groovelaw01.IntegerRing', WHERE WHAT IT READS IS OF BULK AT MOST 1048576: true; the input reads as it did. -/
def integerRingUptoRow : OpenClaim := { program := "ytpnhccpfbeidlaa", sum := "71b303fc67a84f1bbe4bea0aaf05d1fa7536c39e3611263c2faf1b1999a00c53", func := "groove/groovelaw01.IntegerRing", spec := "integerRing", inPlace := ["internal/abi.NoEscape"], unfollowed := true, recurses := true, apart := false, narrowed := true }
def IntegerRingUptoSaid : Prop := integerRingUptoRow.holds Try.pinned (OpenSpec.upto integerRingSpec)

/-- 'groovelaw01.IntegerDivisors', WHERE WHAT IT READS IS OF BULK AT MOST 1048576: true; the input reads as it did. -/
def integerDivisorsUptoRow : OpenClaim := { program := "ytpnhccpfbeidlaa", sum := "71b303fc67a84f1bbe4bea0aaf05d1fa7536c39e3611263c2faf1b1999a00c53", func := "groove/groovelaw01.IntegerDivisors", spec := "integerDivisors", inPlace := ["internal/abi.NoEscape"], unfollowed := true, recurses := true, apart := false, narrowed := true }
def IntegerDivisorsUptoSaid : Prop := integerDivisorsUptoRow.holds Try.pinned (OpenSpec.upto integerDivisorsSpec)

/-- 'groovelaw01.IntegerMachine', WHERE WHAT IT READS IS OF BULK AT MOST 1048576: true; the input reads as it did. -/
def integerMachineUptoRow : OpenClaim := { program := "ytpnhccpfbeidlaa", sum := "71b303fc67a84f1bbe4bea0aaf05d1fa7536c39e3611263c2faf1b1999a00c53", func := "groove/groovelaw01.IntegerMachine", spec := "integerMachine", inPlace := ["internal/abi.NoEscape"], unfollowed := true, recurses := true, apart := false, narrowed := true }
def IntegerMachineUptoSaid : Prop := integerMachineUptoRow.holds Try.pinned (OpenSpec.upto integerMachineSpec)

/-- 'groovelaw01.IntegerBasics', WHERE WHAT IT READS IS OF BULK AT MOST 1048576: true; the input reads as it did. -/
def integerBasicsUptoRow : OpenClaim := { program := "ytpnhccpfbeidlaa", sum := "71b303fc67a84f1bbe4bea0aaf05d1fa7536c39e3611263c2faf1b1999a00c53", func := "groove/groovelaw01.IntegerBasics", spec := "integerBasics", inPlace := ["internal/abi.NoEscape"], unfollowed := true, recurses := true, apart := false, narrowed := true }
def IntegerBasicsUptoSaid : Prop := integerBasicsUptoRow.holds Try.pinned (OpenSpec.upto integerBasicsSpec)

end Rows
end Go.Proofs.Ytpnhccpfbeidlaa
