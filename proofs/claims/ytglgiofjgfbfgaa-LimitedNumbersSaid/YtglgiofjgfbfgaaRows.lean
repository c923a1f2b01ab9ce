/-
  No cell of these rows narrows 'for every input' (looked for: loops, veiled, ifaces, maps, wideKeys, modest, calm, conditions, laid).
  DERIVED. THE GIVEN ROWS OF THIS SEAT. 7 by the template 'for every input the law returns true; each argument reads behind the call as it read before'; 0 by the template 'total and deterministic' (their statements: YtglgiofjgfbfgaaTotals.lean).
  GIVEN WITH THE SEED: the statements are not yours to turn. If you find one false, say at which input.
  Laid BY PROGRAM, IN A SANDBOX (cutbox-rows.mjs): the forced cells as the released guide's own fill.sh prints them over the translation aba2de3b9895b21c… (all of the seat's roots in one cut). By AI agents, Wed Nov 11 2026. No macro, syntax, notation, axiom, sorry.
-/
import Derived.Test.YtglgiofjgfbfgaaChecked
import GoSem.Claim
import GoSem.ClaimJoined
import GoSem.ClaimMapViews
import Derived.JoinedTies
import Derived.KernelRfl
namespace Go.Proofs.Ytglgiofjgfbfgaa
/- THE CELL 'sum', in the pinned program and in every row, IS THE sha256 OF THE DUMP (.gsa) THAT YtglgiofjgfbfgaaProg.lean LOADS. Nothing in Lean hashes anything: it is a label: what it is worth is what the hold of that sum in a sandbox is worth. -/
noncomputable def Try.pinned : Pinned := { name := "ytglgiofjgfbfgaa", sum := "aba2de3b9895b21cdf815c5971621434d3316cccd648ba89bc8f82056463da03", checked := Try.checked }
namespace Rows
def none {H : Type} : Left H := { results := [], args := [] }

/-- 'groovelaw39.LimitedScales': WHATEVER THE INPUT: true; the input reads as it did. -/
def limitedScalesSpec : ChangeSpec := { name := "limitedScales", fn := fun _ => fun
  | [d1, d2, d3] => { results := [.lit (.bool true)], args := [d1, d2, d3] }
  | _ => none }
def limitedScalesRow : OpenClaim := { program := "ytglgiofjgfbfgaa", sum := "aba2de3b9895b21cdf815c5971621434d3316cccd648ba89bc8f82056463da03", func := "groove/groovelaw39.LimitedScales", spec := "limitedScales", unfollowed := true, recurses := true, apart := false }
def LimitedScalesSaid : Prop := limitedScalesRow.holds Try.pinned (OpenSpec.ofChange limitedScalesSpec)

/-- ITS FALSE NEIGHBOUR: 'it returns false'. Refute it at one input. -/
def limitedScalesWrong : ChangeSpec := { name := "limitedScales", fn := fun _ => fun
  | [d1, d2, d3] => { results := [.lit (.bool false)], args := [d1, d2, d3] }
  | _ => none }
def LimitedScalesWrongFalsely : Prop := limitedScalesRow.holds Try.pinned (OpenSpec.ofChange limitedScalesWrong)

/-- 'groovelaw39.LimitedLimits': WHATEVER THE INPUT: true; the input reads as it did. -/
def limitedLimitsSpec : ChangeSpec := { name := "limitedLimits", fn := fun _ => fun
  | [d1, d2] => { results := [.lit (.bool true)], args := [d1, d2] }
  | _ => none }
def limitedLimitsRow : OpenClaim := { program := "ytglgiofjgfbfgaa", sum := "aba2de3b9895b21cdf815c5971621434d3316cccd648ba89bc8f82056463da03", func := "groove/groovelaw39.LimitedLimits", spec := "limitedLimits", unfollowed := true, recurses := true, apart := false }
def LimitedLimitsSaid : Prop := limitedLimitsRow.holds Try.pinned (OpenSpec.ofChange limitedLimitsSpec)

/-- ITS FALSE NEIGHBOUR: 'it returns false'. Refute it at one input. -/
def limitedLimitsWrong : ChangeSpec := { name := "limitedLimits", fn := fun _ => fun
  | [d1, d2] => { results := [.lit (.bool false)], args := [d1, d2] }
  | _ => none }
def LimitedLimitsWrongFalsely : Prop := limitedLimitsRow.holds Try.pinned (OpenSpec.ofChange limitedLimitsWrong)

/-- 'groovelaw39.LimitedNumbers': WHATEVER THE INPUT: true; the input reads as it did. -/
def limitedNumbersSpec : ChangeSpec := { name := "limitedNumbers", fn := fun _ => fun
  | [d1, d2] => { results := [.lit (.bool true)], args := [d1, d2] }
  | _ => none }
def limitedNumbersRow : OpenClaim := { program := "ytglgiofjgfbfgaa", sum := "aba2de3b9895b21cdf815c5971621434d3316cccd648ba89bc8f82056463da03", func := "groove/groovelaw39.LimitedNumbers", spec := "limitedNumbers", unfollowed := true, recurses := true, apart := false }
def LimitedNumbersSaid : Prop := limitedNumbersRow.holds Try.pinned (OpenSpec.ofChange limitedNumbersSpec)

/-- ITS FALSE NEIGHBOUR: 'it returns false'. Refute it at one input. -/
def limitedNumbersWrong : ChangeSpec := { name := "limitedNumbers", fn := fun _ => fun
  | [d1, d2] => { results := [.lit (.bool false)], args := [d1, d2] }
  | _ => none }
def LimitedNumbersWrongFalsely : Prop := limitedNumbersRow.holds Try.pinned (OpenSpec.ofChange limitedNumbersWrong)

/-- 'groovelaw39.LimitedBest': WHATEVER THE INPUT: true; the input reads as it did. -/
def limitedBestSpec : ChangeSpec := { name := "limitedBest", fn := fun _ => fun
  | [d1, d2, d3] => { results := [.lit (.bool true)], args := [d1, d2, d3] }
  | _ => none }
def limitedBestRow : OpenClaim := { program := "ytglgiofjgfbfgaa", sum := "aba2de3b9895b21cdf815c5971621434d3316cccd648ba89bc8f82056463da03", func := "groove/groovelaw39.LimitedBest", spec := "limitedBest", unfollowed := true, recurses := true, apart := false }
def LimitedBestSaid : Prop := limitedBestRow.holds Try.pinned (OpenSpec.ofChange limitedBestSpec)

/-- ITS FALSE NEIGHBOUR: 'it returns false'. Refute it at one input. -/
def limitedBestWrong : ChangeSpec := { name := "limitedBest", fn := fun _ => fun
  | [d1, d2, d3] => { results := [.lit (.bool false)], args := [d1, d2, d3] }
  | _ => none }
def LimitedBestWrongFalsely : Prop := limitedBestRow.holds Try.pinned (OpenSpec.ofChange limitedBestWrong)

/-- 'groovelaw39.LimitedFirst': WHATEVER THE INPUT: true; the input reads as it did. -/
def limitedFirstSpec : ChangeSpec := { name := "limitedFirst", fn := fun _ => fun
  | [d1, d2, d3] => { results := [.lit (.bool true)], args := [d1, d2, d3] }
  | _ => none }
def limitedFirstRow : OpenClaim := { program := "ytglgiofjgfbfgaa", sum := "aba2de3b9895b21cdf815c5971621434d3316cccd648ba89bc8f82056463da03", func := "groove/groovelaw39.LimitedFirst", spec := "limitedFirst", unfollowed := true, recurses := true, apart := false }
def LimitedFirstSaid : Prop := limitedFirstRow.holds Try.pinned (OpenSpec.ofChange limitedFirstSpec)

/-- ITS FALSE NEIGHBOUR: 'it returns false'. Refute it at one input. -/
def limitedFirstWrong : ChangeSpec := { name := "limitedFirst", fn := fun _ => fun
  | [d1, d2, d3] => { results := [.lit (.bool false)], args := [d1, d2, d3] }
  | _ => none }
def LimitedFirstWrongFalsely : Prop := limitedFirstRow.holds Try.pinned (OpenSpec.ofChange limitedFirstWrong)

/-- 'groovelaw39.LimitedPackages': WHATEVER THE INPUT: true; the input reads as it did. -/
def limitedPackagesSpec : ChangeSpec := { name := "limitedPackages", fn := fun _ => fun
  | [d1, d2] => { results := [.lit (.bool true)], args := [d1, d2] }
  | _ => none }
def limitedPackagesRow : OpenClaim := { program := "ytglgiofjgfbfgaa", sum := "aba2de3b9895b21cdf815c5971621434d3316cccd648ba89bc8f82056463da03", func := "groove/groovelaw39.LimitedPackages", spec := "limitedPackages", unfollowed := true, recurses := true, apart := false }
def LimitedPackagesSaid : Prop := limitedPackagesRow.holds Try.pinned (OpenSpec.ofChange limitedPackagesSpec)

/-- ITS FALSE NEIGHBOUR: 'it returns false'. Refute it at one input. -/
def limitedPackagesWrong : ChangeSpec := { name := "limitedPackages", fn := fun _ => fun
  | [d1, d2] => { results := [.lit (.bool false)], args := [d1, d2] }
  | _ => none }
def LimitedPackagesWrongFalsely : Prop := limitedPackagesRow.holds Try.pinned (OpenSpec.ofChange limitedPackagesWrong)

/-- 'groovelaw39.LimitedProved': WHATEVER THE INPUT: true; the input reads as it did. -/
def limitedProvedSpec : ChangeSpec := { name := "limitedProved", fn := fun _ => fun
  | [d1, d2, d3, d4, d5, d6] => { results := [.lit (.bool true)], args := [d1, d2, d3, d4, d5, d6] }
  | _ => none }
def limitedProvedRow : OpenClaim := { program := "ytglgiofjgfbfgaa", sum := "aba2de3b9895b21cdf815c5971621434d3316cccd648ba89bc8f82056463da03", func := "groove/groovelaw39.LimitedProved", spec := "limitedProved", unfollowed := true, recurses := true, apart := false }
def LimitedProvedSaid : Prop := limitedProvedRow.holds Try.pinned (OpenSpec.ofChange limitedProvedSpec)

/-- ITS FALSE NEIGHBOUR: 'it returns false'. Refute it at one input. -/
def limitedProvedWrong : ChangeSpec := { name := "limitedProved", fn := fun _ => fun
  | [d1, d2, d3, d4, d5, d6] => { results := [.lit (.bool false)], args := [d1, d2, d3, d4, d5, d6] }
  | _ => none }
def LimitedProvedWrongFalsely : Prop := limitedProvedRow.holds Try.pinned (OpenSpec.ofChange limitedProvedWrong)

/- THE SECOND FORM. 'bulk': how many values and letters a reading holds, each counted each time it is reached (what is shared counts as often as it is met; a slice's spare places count too). A statement '..UptoSaid' is the law's where the arguments, and the package variables that the reading takes, are together of bulk at most 1048576: NARROWER than '..Said'. Prove '..Said' where nothing that the law and all that it calls make is longer than what came in: it says more and counts as full. Else prove '..UptoSaid'. A law counts once. -/
mutual
def uptoBulk {H : Type} : DataW H → Nat
  | .lit (.string bytes) => bytes.length + 1
  | .lit _ => 1
  | .nil => 1
  | .ptr d => uptoBulk d + 1
  | .slice elems spare => uptoBulkAll elems + uptoBulkAll spare + 1
  | .agg parts => uptoBulkAll parts + 1
  | .iface _ d => uptoBulk d + 1
  | .map entries => uptoBulkEntries entries + 1
  | .held _ => 1
def uptoBulkAll {H : Type} : List (DataW H) → Nat
  | [] => 0
  | d :: r => uptoBulk d + uptoBulkAll r
def uptoBulkEntries {H : Type} : List (Lit × DataW H) → Nat
  | [] => 0
  | x :: r => uptoBulkEntry x + uptoBulkEntries r
def uptoBulkEntry {H : Type} : Lit × DataW H → Nat
  | (.string bytes, d) => bytes.length + uptoBulk d + 1
  | (_, d) => uptoBulk d + 1
 end
def uptoSmall : (H : Type) → List (DataW H) → Bool := fun _ ds => decide (uptoBulkAll ds ≤ 1048576)
def OpenSpec.upto (s : _root_.Go.ChangeSpec) : _root_.Go.OpenSpec := { _root_.Go.OpenSpec.ofChange s with cond := some uptoSmall }

/-- 'groovelaw39.LimitedScales', WHERE WHAT IT READS IS OF BULK AT MOST 1048576: true; the input reads as it did. -/
def limitedScalesUptoRow : OpenClaim := { program := "ytglgiofjgfbfgaa", sum := "aba2de3b9895b21cdf815c5971621434d3316cccd648ba89bc8f82056463da03", func := "groove/groovelaw39.LimitedScales", spec := "limitedScales", unfollowed := true, recurses := true, apart := false, narrowed := true }
def LimitedScalesUptoSaid : Prop := limitedScalesUptoRow.holds Try.pinned (OpenSpec.upto limitedScalesSpec)

/-- 'groovelaw39.LimitedLimits', WHERE WHAT IT READS IS OF BULK AT MOST 1048576: true; the input reads as it did. -/
def limitedLimitsUptoRow : OpenClaim := { program := "ytglgiofjgfbfgaa", sum := "aba2de3b9895b21cdf815c5971621434d3316cccd648ba89bc8f82056463da03", func := "groove/groovelaw39.LimitedLimits", spec := "limitedLimits", unfollowed := true, recurses := true, apart := false, narrowed := true }
def LimitedLimitsUptoSaid : Prop := limitedLimitsUptoRow.holds Try.pinned (OpenSpec.upto limitedLimitsSpec)

/-- 'groovelaw39.LimitedNumbers', WHERE WHAT IT READS IS OF BULK AT MOST 1048576: true; the input reads as it did. -/
def limitedNumbersUptoRow : OpenClaim := { program := "ytglgiofjgfbfgaa", sum := "aba2de3b9895b21cdf815c5971621434d3316cccd648ba89bc8f82056463da03", func := "groove/groovelaw39.LimitedNumbers", spec := "limitedNumbers", unfollowed := true, recurses := true, apart := false, narrowed := true }
def LimitedNumbersUptoSaid : Prop := limitedNumbersUptoRow.holds Try.pinned (OpenSpec.upto limitedNumbersSpec)

/-- 'groovelaw39.LimitedBest', WHERE WHAT IT READS IS OF BULK AT MOST 1048576: true; the input reads as it did. -/
def limitedBestUptoRow : OpenClaim := { program := "ytglgiofjgfbfgaa", sum := "aba2de3b9895b21cdf815c5971621434d3316cccd648ba89bc8f82056463da03", func := "groove/groovelaw39.LimitedBest", spec := "limitedBest", unfollowed := true, recurses := true, apart := false, narrowed := true }
def LimitedBestUptoSaid : Prop := limitedBestUptoRow.holds Try.pinned (OpenSpec.upto limitedBestSpec)

/-- 'groovelaw39.LimitedFirst', WHERE WHAT IT READS IS OF BULK AT MOST 1048576: true; the input reads as it did. -/
def limitedFirstUptoRow : OpenClaim := { program := "ytglgiofjgfbfgaa", sum := "aba2de3b9895b21cdf815c5971621434d3316cccd648ba89bc8f82056463da03", func := "groove/groovelaw39.LimitedFirst", spec := "limitedFirst", unfollowed := true, recurses := true, apart := false, narrowed := true }
def LimitedFirstUptoSaid : Prop := limitedFirstUptoRow.holds Try.pinned (OpenSpec.upto limitedFirstSpec)

/-- 'groovelaw39.LimitedPackages', WHERE WHAT IT READS IS OF BULK AT MOST 1048576: true; the input reads as it did. -/
def limitedPackagesUptoRow : OpenClaim := { program := "ytglgiofjgfbfgaa", sum := "aba2de3b9895b21cdf815c5971621434d3316cccd648ba89bc8f82056463da03", func := "groove/groovelaw39.LimitedPackages", spec := "limitedPackages", unfollowed := true, recurses := true, apart := false, narrowed := true }
def LimitedPackagesUptoSaid : Prop := limitedPackagesUptoRow.holds Try.pinned (OpenSpec.upto limitedPackagesSpec)

/-- 'groovelaw39.LimitedProved', WHERE WHAT IT READS IS OF BULK AT MOST 1048576: true; the input reads as it did. -/
def limitedProvedUptoRow : OpenClaim := { program := "ytglgiofjgfbfgaa", sum := "aba2de3b9895b21cdf815c5971621434d3316cccd648ba89bc8f82056463da03", func := "groove/groovelaw39.LimitedProved", spec := "limitedProved", unfollowed := true, recurses := true, apart := false, narrowed := true }
def LimitedProvedUptoSaid : Prop := limitedProvedUptoRow.holds Try.pinned (OpenSpec.upto limitedProvedSpec)

end Rows
end Go.Proofs.Ytglgiofjgfbfgaa
