/-
  No cell of these rows narrows 'for every input' (looked for: loops, veiled, ifaces, maps, wideKeys, modest, calm, conditions, laid).
  DERIVED. THE GIVEN ROWS OF THIS SEAT. 5 by the template 'for every input the law returns true; each argument reads behind the call as it read before'; 0 by the template 'total and deterministic' (their statements: YtpdanbnfommbhaaTotals.lean).
  GIVEN WITH THE SEED: the statements are not yours to turn. If you find one false, say at which input.
  Laid BY PROGRAM, IN A SANDBOX (cutbox-rows.mjs): the forced cells as the released guide's own fill.sh prints them over the translation e65d480ede1c92cf… (all of the seat's roots in one cut). By AI agents, Wed Nov 11 2026. No macro, syntax, notation, axiom, sorry.
-/
import Derived.Test.YtpdanbnfommbhaaChecked
import GoSem.Claim
import GoSem.ClaimJoined
import GoSem.ClaimMapViews
import Derived.JoinedTies
import Derived.KernelRfl
namespace Go.Proofs.Ytpdanbnfommbhaa
/- THE CELL 'sum', in the pinned program and in every row, IS THE sha256 OF THE DUMP (.gsa) THAT YtpdanbnfommbhaaProg.lean LOADS. Nothing in Lean hashes anything: it is a label: what it is worth is what the hold of that sum in a sandbox is worth. -/
noncomputable def Try.pinned : Pinned := { name := "ytpdanbnfommbhaa", sum := "e65d480ede1c92cf66c02cf32363592b4a9d8a524675985c3a5e09cdf7960006", checked := Try.checked }
namespace Rows
def none {H : Type} : Left H := { results := [], args := [] }

/-- 'groovelaw38.HuffmanSums': WHATEVER THE INPUT: true; the input reads as it did. -/
def huffmanSumsSpec : ChangeSpec := { name := "huffmanSums", fn := fun _ => fun
  | [d] => { results := [.lit (.bool true)], args := [d] }
  | _ => none }
def huffmanSumsRow : OpenClaim := { program := "ytpdanbnfommbhaa", sum := "e65d480ede1c92cf66c02cf32363592b4a9d8a524675985c3a5e09cdf7960006", func := "groove/groovelaw38.HuffmanSums", spec := "huffmanSums", unfollowed := true, recurses := true, apart := false }
def HuffmanSumsSaid : Prop := huffmanSumsRow.holds Try.pinned (OpenSpec.ofChange huffmanSumsSpec)

/-- ITS FALSE NEIGHBOUR: 'it returns false'. Refute it at one input. -/
def huffmanSumsWrong : ChangeSpec := { name := "huffmanSums", fn := fun _ => fun
  | [d] => { results := [.lit (.bool false)], args := [d] }
  | _ => none }
def HuffmanSumsWrongFalsely : Prop := huffmanSumsRow.holds Try.pinned (OpenSpec.ofChange huffmanSumsWrong)

/-- 'groovelaw38.HuffmanScales': WHATEVER THE INPUT: true; the input reads as it did. -/
def huffmanScalesSpec : ChangeSpec := { name := "huffmanScales", fn := fun _ => fun
  | [d1, d2, d3, d4] => { results := [.lit (.bool true)], args := [d1, d2, d3, d4] }
  | _ => none }
def huffmanScalesRow : OpenClaim := { program := "ytpdanbnfommbhaa", sum := "e65d480ede1c92cf66c02cf32363592b4a9d8a524675985c3a5e09cdf7960006", func := "groove/groovelaw38.HuffmanScales", spec := "huffmanScales", unfollowed := true, recurses := true, apart := false }
def HuffmanScalesSaid : Prop := huffmanScalesRow.holds Try.pinned (OpenSpec.ofChange huffmanScalesSpec)

/-- ITS FALSE NEIGHBOUR: 'it returns false'. Refute it at one input. -/
def huffmanScalesWrong : ChangeSpec := { name := "huffmanScales", fn := fun _ => fun
  | [d1, d2, d3, d4] => { results := [.lit (.bool false)], args := [d1, d2, d3, d4] }
  | _ => none }
def HuffmanScalesWrongFalsely : Prop := huffmanScalesRow.holds Try.pinned (OpenSpec.ofChange huffmanScalesWrong)

/-- 'groovelaw38.HuffmanChecks': WHATEVER THE INPUT: true; the input reads as it did. -/
def huffmanChecksSpec : ChangeSpec := { name := "huffmanChecks", fn := fun _ => fun
  | [d1, d2, d3] => { results := [.lit (.bool true)], args := [d1, d2, d3] }
  | _ => none }
def huffmanChecksRow : OpenClaim := { program := "ytpdanbnfommbhaa", sum := "e65d480ede1c92cf66c02cf32363592b4a9d8a524675985c3a5e09cdf7960006", func := "groove/groovelaw38.HuffmanChecks", spec := "huffmanChecks", unfollowed := true, recurses := true, apart := false }
def HuffmanChecksSaid : Prop := huffmanChecksRow.holds Try.pinned (OpenSpec.ofChange huffmanChecksSpec)

/-- ITS FALSE NEIGHBOUR: 'it returns false'. Refute it at one input. -/
def huffmanChecksWrong : ChangeSpec := { name := "huffmanChecks", fn := fun _ => fun
  | [d1, d2, d3] => { results := [.lit (.bool false)], args := [d1, d2, d3] }
  | _ => none }
def HuffmanChecksWrongFalsely : Prop := huffmanChecksRow.holds Try.pinned (OpenSpec.ofChange huffmanChecksWrong)

/-- 'groovelaw38.HuffmanFits': WHATEVER THE INPUT: true; the input reads as it did. -/
def huffmanFitsSpec : ChangeSpec := { name := "huffmanFits", fn := fun _ => fun
  | [d1, d2] => { results := [.lit (.bool true)], args := [d1, d2] }
  | _ => none }
def huffmanFitsRow : OpenClaim := { program := "ytpdanbnfommbhaa", sum := "e65d480ede1c92cf66c02cf32363592b4a9d8a524675985c3a5e09cdf7960006", func := "groove/groovelaw38.HuffmanFits", spec := "huffmanFits", unfollowed := true, recurses := true, apart := false }
def HuffmanFitsSaid : Prop := huffmanFitsRow.holds Try.pinned (OpenSpec.ofChange huffmanFitsSpec)

/-- ITS FALSE NEIGHBOUR: 'it returns false'. Refute it at one input. -/
def huffmanFitsWrong : ChangeSpec := { name := "huffmanFits", fn := fun _ => fun
  | [d1, d2] => { results := [.lit (.bool false)], args := [d1, d2] }
  | _ => none }
def HuffmanFitsWrongFalsely : Prop := huffmanFitsRow.holds Try.pinned (OpenSpec.ofChange huffmanFitsWrong)

/-- 'groovelaw38.HuffmanProofs': WHATEVER THE INPUT: true; the input reads as it did. -/
def huffmanProofsSpec : ChangeSpec := { name := "huffmanProofs", fn := fun _ => fun
  | [d1, d2] => { results := [.lit (.bool true)], args := [d1, d2] }
  | _ => none }
def huffmanProofsRow : OpenClaim := { program := "ytpdanbnfommbhaa", sum := "e65d480ede1c92cf66c02cf32363592b4a9d8a524675985c3a5e09cdf7960006", func := "groove/groovelaw38.HuffmanProofs", spec := "huffmanProofs", unfollowed := true, recurses := true, apart := false }
def HuffmanProofsSaid : Prop := huffmanProofsRow.holds Try.pinned (OpenSpec.ofChange huffmanProofsSpec)

/-- ITS FALSE NEIGHBOUR: 'it returns false'. Refute it at one input. -/
def huffmanProofsWrong : ChangeSpec := { name := "huffmanProofs", fn := fun _ => fun
  | [d1, d2] => { results := [.lit (.bool false)], args := [d1, d2] }
  | _ => none }
def HuffmanProofsWrongFalsely : Prop := huffmanProofsRow.holds Try.pinned (OpenSpec.ofChange huffmanProofsWrong)

/- THE SECOND FORM. 'bulk': how many values and letters a reading holds, each counted each time it is reached (what is shared counts as often as it is met; a slice's spare places count too). A statement '..UptoSaid' is the law's where the arguments, and the package variables that the reading takes, are together of bulk at most 1048576: NARROWER than '..Said'. Prove '..Said' where nothing that the law and all that it calls make is longer than what came in: it says more and counts as full. Else prove '..UptoSaid'. A law counts once. -/
mutual
def uptoBulk {H : Type} : DataW H → Nat
  | .lit (.string bytes) => bytes.length + 1
  | .lit _ => 1
  | .nil => 1
  | .ptr d => uptoBulk d + 1
  | .slice elems spare => uptoBulkAll elems + uptoBulkAll spare + 1
  | .agg parts => uptoBulkAll parts + 1
  | .iface _ d => uptoBulk d + 1
  | .map entries => uptoBulkEntries entries + 1
  | .held _ => 1
def uptoBulkAll {H : Type} : List (DataW H) → Nat
  | [] => 0
  | d :: r => uptoBulk d + uptoBulkAll r
def uptoBulkEntries {H : Type} : List (Lit × DataW H) → Nat
  | [] => 0
  | x :: r => uptoBulkEntry x + uptoBulkEntries r
def uptoBulkEntry {H : Type} : Lit × DataW H → Nat
  | (.string bytes, d) => bytes.length + uptoBulk d + 1
  | (_, d) => uptoBulk d + 1
 end
def uptoSmall : (H : Type) → List (DataW H) → Bool := fun _ ds => decide (uptoBulkAll ds ≤ 1048576)
def OpenSpec.upto (s : _root_.Go.ChangeSpec) : _root_.Go.OpenSpec := { _root_.Go.OpenSpec.ofChange s with cond := some uptoSmall }

/-- 'groovelaw38.HuffmanSums', WHERE WHAT IT READS IS OF BULK AT MOST 1048576: true; the input reads as it did. -/
def huffmanSumsUptoRow : OpenClaim := { program := "ytpdanbnfommbhaa", sum := "e65d480ede1c92cf66c02cf32363592b4a9d8a524675985c3a5e09cdf7960006", func := "groove/groovelaw38.HuffmanSums", spec := "huffmanSums", unfollowed := true, recurses := true, apart := false, narrowed := true }
def HuffmanSumsUptoSaid : Prop := huffmanSumsUptoRow.holds Try.pinned (OpenSpec.upto huffmanSumsSpec)

/-- 'groovelaw38.HuffmanScales', WHERE WHAT IT READS IS OF BULK AT MOST 1048576: true; the input reads as it did. -/
def huffmanScalesUptoRow : OpenClaim := { program := "ytpdanbnfommbhaa", sum := "e65d480ede1c92cf66c02cf32363592b4a9d8a524675985c3a5e09cdf7960006", func := "groove/groovelaw38.HuffmanScales", spec := "huffmanScales", unfollowed := true, recurses := true, apart := false, narrowed := true }
def HuffmanScalesUptoSaid : Prop := huffmanScalesUptoRow.holds Try.pinned (OpenSpec.upto huffmanScalesSpec)

/-- 'groovelaw38.HuffmanChecks', WHERE WHAT IT READS IS OF BULK AT MOST 1048576: true; the input reads as it did. -/
def huffmanChecksUptoRow : OpenClaim := { program := "ytpdanbnfommbhaa", sum := "e65d480ede1c92cf66c02cf32363592b4a9d8a524675985c3a5e09cdf7960006", func := "groove/groovelaw38.HuffmanChecks", spec := "huffmanChecks", unfollowed := true, recurses := true, apart := false, narrowed := true }
def HuffmanChecksUptoSaid : Prop := huffmanChecksUptoRow.holds Try.pinned (OpenSpec.upto huffmanChecksSpec)

/-- 'groovelaw38.HuffmanFits', WHERE WHAT IT READS IS OF BULK AT MOST 1048576: true; the input reads as it did. -/
def huffmanFitsUptoRow : OpenClaim := { program := "ytpdanbnfommbhaa", sum := "e65d480ede1c92cf66c02cf32363592b4a9d8a524675985c3a5e09cdf7960006", func := "groove/groovelaw38.HuffmanFits", spec := "huffmanFits", unfollowed := true, recurses := true, apart := false, narrowed := true }
def HuffmanFitsUptoSaid : Prop := huffmanFitsUptoRow.holds Try.pinned (OpenSpec.upto huffmanFitsSpec)

/-- 'groovelaw38.HuffmanProofs', WHERE WHAT IT READS IS OF BULK AT MOST 1048576: true; the input reads as it did. -/
def huffmanProofsUptoRow : OpenClaim := { program := "ytpdanbnfommbhaa", sum := "e65d480ede1c92cf66c02cf32363592b4a9d8a524675985c3a5e09cdf7960006", func := "groove/groovelaw38.HuffmanProofs", spec := "huffmanProofs", unfollowed := true, recurses := true, apart := false, narrowed := true }
def HuffmanProofsUptoSaid : Prop := huffmanProofsUptoRow.holds Try.pinned (OpenSpec.upto huffmanProofsSpec)

end Rows
end Go.Proofs.Ytpdanbnfommbhaa
