/-
  No cell of these rows narrows 'for every input' (looked for: loops, veiled, ifaces, maps, wideKeys, modest, calm, conditions, laid).
  DERIVED. THE GIVEN ROWS OF THIS SEAT. 9 by the template 'for every input the law returns true; each argument reads behind the call as it read before'; 0 by the template 'total and deterministic' (their statements: YtlaakomeofldgaaTotals.lean).
  GIVEN WITH THE SEED: the statements are not yours to turn. If you find one false, say at which input.
  Laid BY PROGRAM, IN A SANDBOX (cutbox-rows.mjs): the forced cells as the released guide's own fill.sh prints them over the translation 17d9114c7944b900… (all of the seat's roots in one cut). By AI agents, Wed Nov 11 2026. No macro, syntax, notation, axiom, sorry.
-/
import Derived.Test.YtlaakomeofldgaaChecked
import GoSem.Claim
import GoSem.ClaimJoined
import GoSem.ClaimMapViews
import Derived.JoinedTies
import Derived.KernelRfl
namespace Go.Proofs.Ytlaakomeofldgaa
/- THE CELL 'sum', in the pinned program and in every row, IS THE sha256 OF THE DUMP (.gsa) THAT YtlaakomeofldgaaProg.lean LOADS. Nothing in Lean hashes anything: it is a label: what it is worth is what the hold of that sum in a sandbox is worth. -/
noncomputable def Try.pinned : Pinned := { name := "ytlaakomeofldgaa", sum := "17d9114c7944b9003c831bb281411a9d9d2e0f1927cde87444f597373e5df78e", checked := Try.checked }
namespace Rows
def none {H : Type} : Left H := { results := [], args := [] }

/-- 'groovelaw07.WordBorders': WHATEVER THE INPUT: true; the input reads as it did. -/
def wordBordersSpec : ChangeSpec := { name := "wordBorders", fn := fun _ => fun
  | [d] => { results := [.lit (.bool true)], args := [d] }
  | _ => none }
def wordBordersRow : OpenClaim := { program := "ytlaakomeofldgaa", sum := "17d9114c7944b9003c831bb281411a9d9d2e0f1927cde87444f597373e5df78e", func := "groove/groovelaw07.WordBorders", spec := "wordBorders", inPlace := ["internal/bytealg.IndexByteString", "internal/bytealg.IndexString"], unfollowed := true, recurses := true, named := ["internal/bytealg.MaxLen"], apart := false }
def WordBordersSaid : Prop := wordBordersRow.holds Try.pinned (OpenSpec.ofChange wordBordersSpec)

/-- ITS FALSE NEIGHBOUR: 'it returns false'. Refute it at one input. -/
def wordBordersWrong : ChangeSpec := { name := "wordBorders", fn := fun _ => fun
  | [d] => { results := [.lit (.bool false)], args := [d] }
  | _ => none }
def WordBordersWrongFalsely : Prop := wordBordersRow.holds Try.pinned (OpenSpec.ofChange wordBordersWrong)

/-- 'groovelaw07.WordFactors': WHATEVER THE INPUT: true; the input reads as it did. -/
def wordFactorsSpec : ChangeSpec := { name := "wordFactors", fn := fun _ => fun
  | [d1, d2] => { results := [.lit (.bool true)], args := [d1, d2] }
  | _ => none }
def wordFactorsRow : OpenClaim := { program := "ytlaakomeofldgaa", sum := "17d9114c7944b9003c831bb281411a9d9d2e0f1927cde87444f597373e5df78e", func := "groove/groovelaw07.WordFactors", spec := "wordFactors", inPlace := ["internal/bytealg.IndexByteString", "internal/bytealg.IndexString"], unfollowed := true, recurses := true, named := ["internal/bytealg.MaxLen"], apart := false }
def WordFactorsSaid : Prop := wordFactorsRow.holds Try.pinned (OpenSpec.ofChange wordFactorsSpec)

/-- ITS FALSE NEIGHBOUR: 'it returns false'. Refute it at one input. -/
def wordFactorsWrong : ChangeSpec := { name := "wordFactors", fn := fun _ => fun
  | [d1, d2] => { results := [.lit (.bool false)], args := [d1, d2] }
  | _ => none }
def WordFactorsWrongFalsely : Prop := wordFactorsRow.holds Try.pinned (OpenSpec.ofChange wordFactorsWrong)

/-- 'groovelaw07.WordReversed': WHATEVER THE INPUT: true; the input reads as it did. -/
def wordReversedSpec : ChangeSpec := { name := "wordReversed", fn := fun _ => fun
  | [d1, d2] => { results := [.lit (.bool true)], args := [d1, d2] }
  | _ => none }
def wordReversedRow : OpenClaim := { program := "ytlaakomeofldgaa", sum := "17d9114c7944b9003c831bb281411a9d9d2e0f1927cde87444f597373e5df78e", func := "groove/groovelaw07.WordReversed", spec := "wordReversed", inPlace := ["internal/bytealg.IndexByteString", "internal/bytealg.IndexString"], unfollowed := true, recurses := true, named := ["internal/bytealg.MaxLen"], apart := false }
def WordReversedSaid : Prop := wordReversedRow.holds Try.pinned (OpenSpec.ofChange wordReversedSpec)

/-- ITS FALSE NEIGHBOUR: 'it returns false'. Refute it at one input. -/
def wordReversedWrong : ChangeSpec := { name := "wordReversed", fn := fun _ => fun
  | [d1, d2] => { results := [.lit (.bool false)], args := [d1, d2] }
  | _ => none }
def WordReversedWrongFalsely : Prop := wordReversedRow.holds Try.pinned (OpenSpec.ofChange wordReversedWrong)

/-- 'groovelaw07.WordFound': WHATEVER THE INPUT: true; the input reads as it did. -/
def wordFoundSpec : ChangeSpec := { name := "wordFound", fn := fun _ => fun
  | [d1, d2] => { results := [.lit (.bool true)], args := [d1, d2] }
  | _ => none }
def wordFoundRow : OpenClaim := { program := "ytlaakomeofldgaa", sum := "17d9114c7944b9003c831bb281411a9d9d2e0f1927cde87444f597373e5df78e", func := "groove/groovelaw07.WordFound", spec := "wordFound", inPlace := ["internal/bytealg.IndexByteString", "internal/bytealg.IndexString"], unfollowed := true, recurses := true, named := ["internal/bytealg.MaxLen"], apart := false }
def WordFoundSaid : Prop := wordFoundRow.holds Try.pinned (OpenSpec.ofChange wordFoundSpec)

/-- ITS FALSE NEIGHBOUR: 'it returns false'. Refute it at one input. -/
def wordFoundWrong : ChangeSpec := { name := "wordFound", fn := fun _ => fun
  | [d1, d2] => { results := [.lit (.bool false)], args := [d1, d2] }
  | _ => none }
def WordFoundWrongFalsely : Prop := wordFoundRow.holds Try.pinned (OpenSpec.ofChange wordFoundWrong)

/-- 'groovelaw07.WordRoots': WHATEVER THE INPUT: true; the input reads as it did. -/
def wordRootsSpec : ChangeSpec := { name := "wordRoots", fn := fun _ => fun
  | [d1, d2, d3] => { results := [.lit (.bool true)], args := [d1, d2, d3] }
  | _ => none }
def wordRootsRow : OpenClaim := { program := "ytlaakomeofldgaa", sum := "17d9114c7944b9003c831bb281411a9d9d2e0f1927cde87444f597373e5df78e", func := "groove/groovelaw07.WordRoots", spec := "wordRoots", inPlace := ["internal/bytealg.IndexByteString", "internal/bytealg.IndexString", "internal/abi.NoEscape", "internal/bytealg.MakeNoZero"], unfollowed := true, recurses := true, named := ["internal/bytealg.MaxLen"], apart := false }
def WordRootsSaid : Prop := wordRootsRow.holds Try.pinned (OpenSpec.ofChange wordRootsSpec)

/-- ITS FALSE NEIGHBOUR: 'it returns false'. Refute it at one input. -/
def wordRootsWrong : ChangeSpec := { name := "wordRoots", fn := fun _ => fun
  | [d1, d2, d3] => { results := [.lit (.bool false)], args := [d1, d2, d3] }
  | _ => none }
def WordRootsWrongFalsely : Prop := wordRootsRow.holds Try.pinned (OpenSpec.ofChange wordRootsWrong)

/-- 'groovelaw07.WordLists': WHATEVER THE INPUT: true; the input reads as it did. -/
def wordListsSpec : ChangeSpec := { name := "wordLists", fn := fun _ => fun
  | [d1, d2, d3] => { results := [.lit (.bool true)], args := [d1, d2, d3] }
  | _ => none }
def wordListsRow : OpenClaim := { program := "ytlaakomeofldgaa", sum := "17d9114c7944b9003c831bb281411a9d9d2e0f1927cde87444f597373e5df78e", func := "groove/groovelaw07.WordLists", spec := "wordLists", inPlace := ["internal/bytealg.IndexByteString", "internal/bytealg.IndexString", "internal/abi.NoEscape", "internal/bytealg.MakeNoZero"], unfollowed := true, recurses := true, named := ["internal/bytealg.MaxLen"], apart := false }
def WordListsSaid : Prop := wordListsRow.holds Try.pinned (OpenSpec.ofChange wordListsSpec)

/-- ITS FALSE NEIGHBOUR: 'it returns false'. Refute it at one input. -/
def wordListsWrong : ChangeSpec := { name := "wordLists", fn := fun _ => fun
  | [d1, d2, d3] => { results := [.lit (.bool false)], args := [d1, d2, d3] }
  | _ => none }
def WordListsWrongFalsely : Prop := wordListsRow.holds Try.pinned (OpenSpec.ofChange wordListsWrong)

/-- 'groovelaw07.WordRanks': WHATEVER THE INPUT: true; the input reads as it did. -/
def wordRanksSpec : ChangeSpec := { name := "wordRanks", fn := fun _ => fun
  | [d1, d2, d3, d4] => { results := [.lit (.bool true)], args := [d1, d2, d3, d4] }
  | _ => none }
def wordRanksRow : OpenClaim := { program := "ytlaakomeofldgaa", sum := "17d9114c7944b9003c831bb281411a9d9d2e0f1927cde87444f597373e5df78e", func := "groove/groovelaw07.WordRanks", spec := "wordRanks", inPlace := ["internal/bytealg.IndexByteString", "internal/bytealg.IndexString", "internal/abi.NoEscape", "internal/bytealg.MakeNoZero"], unfollowed := true, recurses := true, named := ["internal/bytealg.MaxLen"], apart := false }
def WordRanksSaid : Prop := wordRanksRow.holds Try.pinned (OpenSpec.ofChange wordRanksSpec)

/-- ITS FALSE NEIGHBOUR: 'it returns false'. Refute it at one input. -/
def wordRanksWrong : ChangeSpec := { name := "wordRanks", fn := fun _ => fun
  | [d1, d2, d3, d4] => { results := [.lit (.bool false)], args := [d1, d2, d3, d4] }
  | _ => none }
def WordRanksWrongFalsely : Prop := wordRanksRow.holds Try.pinned (OpenSpec.ofChange wordRanksWrong)

/-- 'groovelaw07.WordNext': WHATEVER THE INPUT: true; the input reads as it did. -/
def wordNextSpec : ChangeSpec := { name := "wordNext", fn := fun _ => fun
  | [d1, d2] => { results := [.lit (.bool true)], args := [d1, d2] }
  | _ => none }
def wordNextRow : OpenClaim := { program := "ytlaakomeofldgaa", sum := "17d9114c7944b9003c831bb281411a9d9d2e0f1927cde87444f597373e5df78e", func := "groove/groovelaw07.WordNext", spec := "wordNext", inPlace := ["internal/bytealg.IndexByteString", "internal/bytealg.IndexString", "internal/abi.NoEscape", "internal/bytealg.MakeNoZero"], unfollowed := true, recurses := true, named := ["internal/bytealg.MaxLen"], apart := false }
def WordNextSaid : Prop := wordNextRow.holds Try.pinned (OpenSpec.ofChange wordNextSpec)

/-- ITS FALSE NEIGHBOUR: 'it returns false'. Refute it at one input. -/
def wordNextWrong : ChangeSpec := { name := "wordNext", fn := fun _ => fun
  | [d1, d2] => { results := [.lit (.bool false)], args := [d1, d2] }
  | _ => none }
def WordNextWrongFalsely : Prop := wordNextRow.holds Try.pinned (OpenSpec.ofChange wordNextWrong)

/-- 'groovelaw07.WordOrder': WHATEVER THE INPUT: true; the input reads as it did. -/
def wordOrderSpec : ChangeSpec := { name := "wordOrder", fn := fun _ => fun
  | [d1, d2] => { results := [.lit (.bool true)], args := [d1, d2] }
  | _ => none }
def wordOrderRow : OpenClaim := { program := "ytlaakomeofldgaa", sum := "17d9114c7944b9003c831bb281411a9d9d2e0f1927cde87444f597373e5df78e", func := "groove/groovelaw07.WordOrder", spec := "wordOrder", inPlace := ["internal/bytealg.IndexByteString", "internal/bytealg.IndexString", "internal/abi.NoEscape", "internal/bytealg.MakeNoZero"], unfollowed := true, recurses := true, named := ["internal/bytealg.MaxLen"], apart := false }
def WordOrderSaid : Prop := wordOrderRow.holds Try.pinned (OpenSpec.ofChange wordOrderSpec)

/-- ITS FALSE NEIGHBOUR: 'it returns false'. Refute it at one input. -/
def wordOrderWrong : ChangeSpec := { name := "wordOrder", fn := fun _ => fun
  | [d1, d2] => { results := [.lit (.bool false)], args := [d1, d2] }
  | _ => none }
def WordOrderWrongFalsely : Prop := wordOrderRow.holds Try.pinned (OpenSpec.ofChange wordOrderWrong)

/- THE SECOND FORM. 'bulk': how many values and letters a reading holds, each counted each time it is reached (what is shared counts as often as it is met; a slice's spare places count too). A statement '..UptoSaid' is the law's where the arguments, and the package variables that the reading takes, are together of bulk at most 1048576: NARROWER than '..Said'. Prove '..Said' where nothing that the law and all that it calls make is longer than what came in: it says more and counts as full. Else prove '..UptoSaid'. A law counts once. -/
mutual
def uptoBulk {H : Type} : DataW H → Nat
  | .lit (.string bytes) => bytes.length + 1
  | .lit _ => 1
  | .nil => 1
  | .ptr d => uptoBulk d + 1
  | .slice elems spare => uptoBulkAll elems + uptoBulkAll spare + 1
  | .agg parts => uptoBulkAll parts + 1
  | .iface _ d => uptoBulk d + 1
  | .map entries => uptoBulkEntries entries + 1
  | .held _ => 1
def uptoBulkAll {H : Type} : List (DataW H) → Nat
  | [] => 0
  | d :: r => uptoBulk d + uptoBulkAll r
def uptoBulkEntries {H : Type} : List (Lit × DataW H) → Nat
  | [] => 0
  | x :: r => uptoBulkEntry x + uptoBulkEntries r
def uptoBulkEntry {H : Type} : Lit × DataW H → Nat
  | (.string bytes, d) => bytes.length + uptoBulk d + 1
  | (_, d) => uptoBulk d + 1
 end
def uptoSmall : (H : Type) → List (DataW H) → Bool := fun _ ds => decide (uptoBulkAll ds ≤ 1048576)
def OpenSpec.upto (s : _root_.Go.ChangeSpec) : _root_.Go.OpenSpec := { _root_.Go.OpenSpec.ofChange s with cond := some uptoSmall }

/-- 'groovelaw07.WordBorders', WHERE WHAT IT READS IS OF BULK AT MOST 1048576: true; the input reads as it did. -/
def wordBordersUptoRow : OpenClaim := { program := "ytlaakomeofldgaa", sum := "17d9114c7944b9003c831bb281411a9d9d2e0f1927cde87444f597373e5df78e", func := "groove/groovelaw07.WordBorders", spec := "wordBorders", inPlace := ["internal/bytealg.IndexByteString", "internal/bytealg.IndexString"], unfollowed := true, recurses := true, named := ["internal/bytealg.MaxLen"], apart := false, narrowed := true }
def WordBordersUptoSaid : Prop := wordBordersUptoRow.holds Try.pinned (OpenSpec.upto wordBordersSpec)

/-- 'groovelaw07.WordFactors', WHERE WHAT IT READS IS OF BULK AT MOST 1048576: true; the input reads as it did. -/
def wordFactorsUptoRow : OpenClaim := { program := "ytlaakomeofldgaa", sum := "17d9114c7944b9003c831bb281411a9d9d2e0f1927cde87444f597373e5df78e", func := "groove/groovelaw07.WordFactors", spec := "wordFactors", inPlace := ["internal/bytealg.IndexByteString", "internal/bytealg.IndexString"], unfollowed := true, recurses := true, named := ["internal/bytealg.MaxLen"], apart := false, narrowed := true }
def WordFactorsUptoSaid : Prop := wordFactorsUptoRow.holds Try.pinned (OpenSpec.upto wordFactorsSpec)

/-- 'groovelaw07.WordReversed', WHERE WHAT IT READS IS OF BULK AT MOST 1048576: true; the input reads as it did. -/
def wordReversedUptoRow : OpenClaim := { program := "ytlaakomeofldgaa", sum := "17d9114c7944b9003c831bb281411a9d9d2e0f1927cde87444f597373e5df78e", func := "groove/groovelaw07.WordReversed", spec := "wordReversed", inPlace := ["internal/bytealg.IndexByteString", "internal/bytealg.IndexString"], unfollowed := true, recurses := true, named := ["internal/bytealg.MaxLen"], apart := false, narrowed := true }
def WordReversedUptoSaid : Prop := wordReversedUptoRow.holds Try.pinned (OpenSpec.upto wordReversedSpec)

/-- 'groovelaw07.WordFound', WHERE WHAT IT READS IS OF BULK AT MOST 1048576: true; the input reads as it did. -/
def wordFoundUptoRow : OpenClaim := { program := "ytlaakomeofldgaa", sum := "17d9114c7944b9003c831bb281411a9d9d2e0f1927cde87444f597373e5df78e", func := "groove/groovelaw07.WordFound", spec := "wordFound", inPlace := ["internal/bytealg.IndexByteString", "internal/bytealg.IndexString"], unfollowed := true, recurses := true, named := ["internal/bytealg.MaxLen"], apart := false, narrowed := true }
def WordFoundUptoSaid : Prop := wordFoundUptoRow.holds Try.pinned (OpenSpec.upto wordFoundSpec)

/-- 'groovelaw07.WordRoots', WHERE WHAT IT READS IS OF BULK AT MOST 1048576: true; the input reads as it did. -/
def wordRootsUptoRow : OpenClaim := { program := "ytlaakomeofldgaa", sum := "17d9114c7944b9003c831bb281411a9d9d2e0f1927cde87444f597373e5df78e", func := "groove/groovelaw07.WordRoots", spec := "wordRoots", inPlace := ["internal/bytealg.IndexByteString", "internal/bytealg.IndexString", "internal/abi.NoEscape", "internal/bytealg.MakeNoZero"], unfollowed := true, recurses := true, named := ["internal/bytealg.MaxLen"], apart := false, narrowed := true }
def WordRootsUptoSaid : Prop := wordRootsUptoRow.holds Try.pinned (OpenSpec.upto wordRootsSpec)

/-- 'groovelaw07.WordLists', WHERE WHAT IT READS IS OF BULK AT MOST 1048576: true; the input reads as it did. -/
def wordListsUptoRow : OpenClaim := { program := "ytlaakomeofldgaa", sum := "17d9114c7944b9003c831bb281411a9d9d2e0f1927cde87444f597373e5df78e", func := "groove/groovelaw07.WordLists", spec := "wordLists", inPlace := ["internal/bytealg.IndexByteString", "internal/bytealg.IndexString", "internal/abi.NoEscape", "internal/bytealg.MakeNoZero"], unfollowed := true, recurses := true, named := ["internal/bytealg.MaxLen"], apart := false, narrowed := true }
def WordListsUptoSaid : Prop := wordListsUptoRow.holds Try.pinned (OpenSpec.upto wordListsSpec)

/-- 'groovelaw07.WordRanks', WHERE WHAT IT READS IS OF BULK AT MOST 1048576: true; the input reads as it did. -/
def wordRanksUptoRow : OpenClaim := { program := "ytlaakomeofldgaa", sum := "17d9114c7944b9003c831bb281411a9d9d2e0f1927cde87444f597373e5df78e", func := "groove/groovelaw07.WordRanks", spec := "wordRanks", inPlace := ["internal/bytealg.IndexByteString", "internal/bytealg.IndexString", "internal/abi.NoEscape", "internal/bytealg.MakeNoZero"], unfollowed := true, recurses := true, named := ["internal/bytealg.MaxLen"], apart := false, narrowed := true }
def WordRanksUptoSaid : Prop := wordRanksUptoRow.holds Try.pinned (OpenSpec.upto wordRanksSpec)

/-- 'groovelaw07.WordNext', WHERE WHAT IT READS IS OF BULK AT MOST 1048576: true; the input reads as it did. -/
def wordNextUptoRow : OpenClaim := { program := "ytlaakomeofldgaa", sum := "17d9114c7944b9003c831bb281411a9d9d2e0f1927cde87444f597373e5df78e", func := "groove/groovelaw07.WordNext", spec := "wordNext", inPlace := ["internal/bytealg.IndexByteString", "internal/bytealg.IndexString", "internal/abi.NoEscape", "internal/bytealg.MakeNoZero"], unfollowed := true, recurses := true, named := ["internal/bytealg.MaxLen"], apart := false, narrowed := true }
def WordNextUptoSaid : Prop := wordNextUptoRow.holds Try.pinned (OpenSpec.upto wordNextSpec)

/-- 'groovelaw07.WordOrder', WHERE WHAT IT READS IS OF BULK AT MOST 1048576: true; the input reads as it did. -/
def wordOrderUptoRow : OpenClaim := { program := "ytlaakomeofldgaa", sum := "17d9114c7944b9003c831bb281411a9d9d2e0f1927cde87444f597373e5df78e", func := "groove/groovelaw07.WordOrder", spec := "wordOrder", inPlace := ["internal/bytealg.IndexByteString", "internal/bytealg.IndexString", "internal/abi.NoEscape", "internal/bytealg.MakeNoZero"], unfollowed := true, recurses := true, named := ["internal/bytealg.MaxLen"], apart := false, narrowed := true }
def WordOrderUptoSaid : Prop := wordOrderUptoRow.holds Try.pinned (OpenSpec.upto wordOrderSpec)

end Rows
end Go.Proofs.Ytlaakomeofldgaa
