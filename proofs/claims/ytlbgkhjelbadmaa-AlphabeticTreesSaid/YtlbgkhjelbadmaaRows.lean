/-
  No cell of these rows narrows 'for every input' (looked for: loops, veiled, ifaces, maps, wideKeys, modest, calm, conditions, laid).
  DERIVED. THE GIVEN ROWS OF THIS SEAT. 6 by the template 'for every input the law returns true; each argument reads behind the call as it read before'; 0 by the template 'total and deterministic' (their statements: YtlbgkhjelbadmaaTotals.lean).
  GIVEN WITH THE SEED: the statements are not yours to turn. If you find one false, say at which input.
  Laid BY PROGRAM, IN A SANDBOX (cutbox-rows.mjs): the forced cells as the released guide's own fill.sh prints them over the translation cbe2994a7f450646… (all of the seat's roots in one cut). By AI agents, Wed Nov 11 2026. No macro, syntax, notation, axiom, sorry.
-/
import Derived.Test.YtlbgkhjelbadmaaChecked
import GoSem.Claim
import GoSem.ClaimJoined
import GoSem.ClaimMapViews
import Derived.JoinedTies
import Derived.KernelRfl
namespace Go.Proofs.Ytlbgkhjelbadmaa
/- THE CELL 'sum', in the pinned program and in every row, IS THE sha256 OF THE DUMP (.gsa) THAT YtlbgkhjelbadmaaProg.lean LOADS. Nothing in Lean hashes anything: it is a label: what it is worth is what the hold of that sum in a sandbox is worth. -/
noncomputable def Try.pinned : Pinned := { name := "ytlbgkhjelbadmaa", sum := "cbe2994a7f4506464bab57b9621ae901b4230c0f7bdf72b18bc913db1b3c3d11", checked := Try.checked }
namespace Rows
def none {H : Type} : Left H := { results := [], args := [] }

/-- 'groovelaw40.AlphabeticCodes': WHATEVER THE INPUT: true; the input reads as it did. -/
def alphabeticCodesSpec : ChangeSpec := { name := "alphabeticCodes", fn := fun _ => fun
  | [d] => { results := [.lit (.bool true)], args := [d] }
  | _ => none }
def alphabeticCodesRow : OpenClaim := { program := "ytlbgkhjelbadmaa", sum := "cbe2994a7f4506464bab57b9621ae901b4230c0f7bdf72b18bc913db1b3c3d11", func := "groove/groovelaw40.AlphabeticCodes", spec := "alphabeticCodes", inPlace := ["internal/abi.NoEscape", "internal/bytealg.MakeNoZero"], unfollowed := true, recurses := true, apart := false }
def AlphabeticCodesSaid : Prop := alphabeticCodesRow.holds Try.pinned (OpenSpec.ofChange alphabeticCodesSpec)

/-- ITS FALSE NEIGHBOUR: 'it returns false'. Refute it at one input. -/
def alphabeticCodesWrong : ChangeSpec := { name := "alphabeticCodes", fn := fun _ => fun
  | [d] => { results := [.lit (.bool false)], args := [d] }
  | _ => none }
def AlphabeticCodesWrongFalsely : Prop := alphabeticCodesRow.holds Try.pinned (OpenSpec.ofChange alphabeticCodesWrong)

/-- 'groovelaw40.AlphabeticOptimal': WHATEVER THE INPUT: true; the input reads as it did. -/
def alphabeticOptimalSpec : ChangeSpec := { name := "alphabeticOptimal", fn := fun _ => fun
  | [d1, d2] => { results := [.lit (.bool true)], args := [d1, d2] }
  | _ => none }
def alphabeticOptimalRow : OpenClaim := { program := "ytlbgkhjelbadmaa", sum := "cbe2994a7f4506464bab57b9621ae901b4230c0f7bdf72b18bc913db1b3c3d11", func := "groove/groovelaw40.AlphabeticOptimal", spec := "alphabeticOptimal", inPlace := ["internal/abi.NoEscape", "internal/bytealg.MakeNoZero"], unfollowed := true, recurses := true, apart := false }
def AlphabeticOptimalSaid : Prop := alphabeticOptimalRow.holds Try.pinned (OpenSpec.ofChange alphabeticOptimalSpec)

/-- ITS FALSE NEIGHBOUR: 'it returns false'. Refute it at one input. -/
def alphabeticOptimalWrong : ChangeSpec := { name := "alphabeticOptimal", fn := fun _ => fun
  | [d1, d2] => { results := [.lit (.bool false)], args := [d1, d2] }
  | _ => none }
def AlphabeticOptimalWrongFalsely : Prop := alphabeticOptimalRow.holds Try.pinned (OpenSpec.ofChange alphabeticOptimalWrong)

/-- 'groovelaw40.AlphabeticCertified': WHATEVER THE INPUT: true; the input reads as it did. -/
def alphabeticCertifiedSpec : ChangeSpec := { name := "alphabeticCertified", fn := fun _ => fun
  | [d1, d2, d3, d4, d5] => { results := [.lit (.bool true)], args := [d1, d2, d3, d4, d5] }
  | _ => none }
def alphabeticCertifiedRow : OpenClaim := { program := "ytlbgkhjelbadmaa", sum := "cbe2994a7f4506464bab57b9621ae901b4230c0f7bdf72b18bc913db1b3c3d11", func := "groove/groovelaw40.AlphabeticCertified", spec := "alphabeticCertified", inPlace := ["internal/abi.NoEscape", "internal/bytealg.MakeNoZero"], unfollowed := true, recurses := true, apart := false }
def AlphabeticCertifiedSaid : Prop := alphabeticCertifiedRow.holds Try.pinned (OpenSpec.ofChange alphabeticCertifiedSpec)

/-- ITS FALSE NEIGHBOUR: 'it returns false'. Refute it at one input. -/
def alphabeticCertifiedWrong : ChangeSpec := { name := "alphabeticCertified", fn := fun _ => fun
  | [d1, d2, d3, d4, d5] => { results := [.lit (.bool false)], args := [d1, d2, d3, d4, d5] }
  | _ => none }
def AlphabeticCertifiedWrongFalsely : Prop := alphabeticCertifiedRow.holds Try.pinned (OpenSpec.ofChange alphabeticCertifiedWrong)

/-- 'groovelaw40.AlphabeticTrees': WHATEVER THE INPUT: true; the input reads as it did. -/
def alphabeticTreesSpec : ChangeSpec := { name := "alphabeticTrees", fn := fun _ => fun
  | [d] => { results := [.lit (.bool true)], args := [d] }
  | _ => none }
def alphabeticTreesRow : OpenClaim := { program := "ytlbgkhjelbadmaa", sum := "cbe2994a7f4506464bab57b9621ae901b4230c0f7bdf72b18bc913db1b3c3d11", func := "groove/groovelaw40.AlphabeticTrees", spec := "alphabeticTrees", inPlace := ["internal/abi.NoEscape", "internal/bytealg.MakeNoZero"], unfollowed := true, recurses := true, apart := false }
def AlphabeticTreesSaid : Prop := alphabeticTreesRow.holds Try.pinned (OpenSpec.ofChange alphabeticTreesSpec)

/-- ITS FALSE NEIGHBOUR: 'it returns false'. Refute it at one input. -/
def alphabeticTreesWrong : ChangeSpec := { name := "alphabeticTrees", fn := fun _ => fun
  | [d] => { results := [.lit (.bool false)], args := [d] }
  | _ => none }
def AlphabeticTreesWrongFalsely : Prop := alphabeticTreesRow.holds Try.pinned (OpenSpec.ofChange alphabeticTreesWrong)

/-- 'groovelaw40.AlphabeticTurned': WHATEVER THE INPUT: true; the input reads as it did. -/
def alphabeticTurnedSpec : ChangeSpec := { name := "alphabeticTurned", fn := fun _ => fun
  | [d1, d2] => { results := [.lit (.bool true)], args := [d1, d2] }
  | _ => none }
def alphabeticTurnedRow : OpenClaim := { program := "ytlbgkhjelbadmaa", sum := "cbe2994a7f4506464bab57b9621ae901b4230c0f7bdf72b18bc913db1b3c3d11", func := "groove/groovelaw40.AlphabeticTurned", spec := "alphabeticTurned", inPlace := ["internal/abi.NoEscape", "internal/bytealg.MakeNoZero"], unfollowed := true, recurses := true, apart := false }
def AlphabeticTurnedSaid : Prop := alphabeticTurnedRow.holds Try.pinned (OpenSpec.ofChange alphabeticTurnedSpec)

/-- ITS FALSE NEIGHBOUR: 'it returns false'. Refute it at one input. -/
def alphabeticTurnedWrong : ChangeSpec := { name := "alphabeticTurned", fn := fun _ => fun
  | [d1, d2] => { results := [.lit (.bool false)], args := [d1, d2] }
  | _ => none }
def AlphabeticTurnedWrongFalsely : Prop := alphabeticTurnedRow.holds Try.pinned (OpenSpec.ofChange alphabeticTurnedWrong)

/-- 'groovelaw40.AlphabeticHuffman': WHATEVER THE INPUT: true; the input reads as it did. -/
def alphabeticHuffmanSpec : ChangeSpec := { name := "alphabeticHuffman", fn := fun _ => fun
  | [d] => { results := [.lit (.bool true)], args := [d] }
  | _ => none }
def alphabeticHuffmanRow : OpenClaim := { program := "ytlbgkhjelbadmaa", sum := "cbe2994a7f4506464bab57b9621ae901b4230c0f7bdf72b18bc913db1b3c3d11", func := "groove/groovelaw40.AlphabeticHuffman", spec := "alphabeticHuffman", inPlace := ["internal/abi.NoEscape", "internal/bytealg.MakeNoZero"], unfollowed := true, recurses := true, apart := false }
def AlphabeticHuffmanSaid : Prop := alphabeticHuffmanRow.holds Try.pinned (OpenSpec.ofChange alphabeticHuffmanSpec)

/-- ITS FALSE NEIGHBOUR: 'it returns false'. Refute it at one input. -/
def alphabeticHuffmanWrong : ChangeSpec := { name := "alphabeticHuffman", fn := fun _ => fun
  | [d] => { results := [.lit (.bool false)], args := [d] }
  | _ => none }
def AlphabeticHuffmanWrongFalsely : Prop := alphabeticHuffmanRow.holds Try.pinned (OpenSpec.ofChange alphabeticHuffmanWrong)

/- THE SECOND FORM. 'bulk': how many values and letters a reading holds, each counted each time it is reached (what is shared counts as often as it is met; a slice's spare places count too). A statement '..UptoSaid' is the law's where the arguments, and the package variables that the reading takes, are together of bulk at most 1048576: NARROWER than '..Said'. Prove '..Said' where nothing that the law and all that it calls make is longer than what came in: it says more and counts as full. Else prove '..UptoSaid'. A law counts once. -/
mutual
def uptoBulk {H : Type} : DataW H → Nat
  | .lit (.string bytes) => bytes.length + 1
  | .lit _ => 1
  | .nil => 1
  | .ptr d => uptoBulk d + 1
  | .slice elems spare => uptoBulkAll elems + uptoBulkAll spare + 1
  | .agg parts => uptoBulkAll parts + 1
  | .iface _ d => uptoBulk d + 1
  | .map entries => uptoBulkEntries entries + 1
  | .held _ => 1
def uptoBulkAll {H : Type} : List (DataW H) → Nat
  | [] => 0
  | d :: r => uptoBulk d + uptoBulkAll r
def uptoBulkEntries {H : Type} : List (Lit × DataW H) → Nat
  | [] => 0
  | x :: r => uptoBulkEntry x + uptoBulkEntries r
def uptoBulkEntry {H : Type} : Lit × DataW H → Nat
  | (.string bytes, d) => bytes.length + uptoBulk d + 1
  | (_, d) => uptoBulk d + 1
 end
def uptoSmall : (H : Type) → List (DataW H) → Bool := fun _ ds => decide (uptoBulkAll ds ≤ 1048576)
def OpenSpec.upto (s : _root_.Go.ChangeSpec) : _root_.Go.OpenSpec := { _root_.Go.OpenSpec.ofChange s with cond := some uptoSmall }

/-- 'groovelaw40.AlphabeticCodes', WHERE WHAT IT READS IS OF BULK AT MOST 1048576: true; the input reads as it did. -/
def alphabeticCodesUptoRow : OpenClaim := { program := "ytlbgkhjelbadmaa", sum := "cbe2994a7f4506464bab57b9621ae901b4230c0f7bdf72b18bc913db1b3c3d11", func := "groove/groovelaw40.AlphabeticCodes", spec := "alphabeticCodes", inPlace := ["internal/abi.NoEscape", "internal/bytealg.MakeNoZero"], unfollowed := true, recurses := true, apart := false, narrowed := true }
def AlphabeticCodesUptoSaid : Prop := alphabeticCodesUptoRow.holds Try.pinned (OpenSpec.upto alphabeticCodesSpec)

/-- 'groovelaw40.AlphabeticOptimal', WHERE WHAT IT READS IS OF BULK AT MOST 1048576: true; the input reads as it did. -/
def alphabeticOptimalUptoRow : OpenClaim := { program := "ytlbgkhjelbadmaa", sum := "cbe2994a7f4506464bab57b9621ae901b4230c0f7bdf72b18bc913db1b3c3d11", func := "groove/groovelaw40.AlphabeticOptimal", spec := "alphabeticOptimal", inPlace := ["internal/abi.NoEscape", "internal/bytealg.MakeNoZero"], unfollowed := true, recurses := true, apart := false, narrowed := true }
def AlphabeticOptimalUptoSaid : Prop := alphabeticOptimalUptoRow.holds Try.pinned (OpenSpec.upto alphabeticOptimalSpec)

/-- 'groovelaw40.AlphabeticCertified', WHERE WHAT IT READS IS OF BULK AT MOST 1048576: true; the input reads as it did. -/
def alphabeticCertifiedUptoRow : OpenClaim := { program := "ytlbgkhjelbadmaa", sum := "cbe2994a7f4506464bab57b9621ae901b4230c0f7bdf72b18bc913db1b3c3d11", func := "groove/groovelaw40.AlphabeticCertified", spec := "alphabeticCertified", inPlace := ["internal/abi.NoEscape", "internal/bytealg.MakeNoZero"], unfollowed := true, recurses := true, apart := false, narrowed := true }
def AlphabeticCertifiedUptoSaid : Prop := alphabeticCertifiedUptoRow.holds Try.pinned (OpenSpec.upto alphabeticCertifiedSpec)

/-- 'groovelaw40.AlphabeticTrees', WHERE WHAT IT READS IS OF BULK AT MOST 1048576: true; the input reads as it did. -/
def alphabeticTreesUptoRow : OpenClaim := { program := "ytlbgkhjelbadmaa", sum := "cbe2994a7f4506464bab57b9621ae901b4230c0f7bdf72b18bc913db1b3c3d11", func := "groove/groovelaw40.AlphabeticTrees", spec := "alphabeticTrees", inPlace := ["internal/abi.NoEscape", "internal/bytealg.MakeNoZero"], unfollowed := true, recurses := true, apart := false, narrowed := true }
def AlphabeticTreesUptoSaid : Prop := alphabeticTreesUptoRow.holds Try.pinned (OpenSpec.upto alphabeticTreesSpec)

/-- 'groovelaw40.AlphabeticTurned', WHERE WHAT IT READS IS OF BULK AT MOST 1048576: true; the input reads as it did. -/
def alphabeticTurnedUptoRow : OpenClaim := { program := "ytlbgkhjelbadmaa", sum := "cbe2994a7f4506464bab57b9621ae901b4230c0f7bdf72b18bc913db1b3c3d11", func := "groove/groovelaw40.AlphabeticTurned", spec := "alphabeticTurned", inPlace := ["internal/abi.NoEscape", "internal/bytealg.MakeNoZero"], unfollowed := true, recurses := true, apart := false, narrowed := true }
def AlphabeticTurnedUptoSaid : Prop := alphabeticTurnedUptoRow.holds Try.pinned (OpenSpec.upto alphabeticTurnedSpec)

/-- 'groovelaw40.AlphabeticHuffman', WHERE WHAT IT READS IS OF BULK AT MOST 1048576: true; the input reads as it did. -/
def alphabeticHuffmanUptoRow : OpenClaim := { program := "ytlbgkhjelbadmaa", sum := "cbe2994a7f4506464bab57b9621ae901b4230c0f7bdf72b18bc913db1b3c3d11", func := "groove/groovelaw40.AlphabeticHuffman", spec := "alphabeticHuffman", inPlace := ["internal/abi.NoEscape", "internal/bytealg.MakeNoZero"], unfollowed := true, recurses := true, apart := false, narrowed := true }
def AlphabeticHuffmanUptoSaid : Prop := alphabeticHuffmanUptoRow.holds Try.pinned (OpenSpec.upto alphabeticHuffmanSpec)

end Rows
end Go.Proofs.Ytlbgkhjelbadmaa
