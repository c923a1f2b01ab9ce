/-
  DERIVED. GIVEN WITH THE SEED: THE CARDS: each row of YtjlgjodjakkjgaaDoorRows.lean that lists a variable, with what it lists TIED to the program's text (the seventh form; the later family's looks); each row that meets fmt, with fmt's text TOLD by the authors' own Lean function (tested against real Go, not proved from fmt's source: count such statements apart). THE CARD IS WHAT COUNTS. Prove the row's statement (the work); the ties are given (YtjlgjodjakkjgaaDoorTie.lean); close each card by the builder's one call (the guide's Derived/Test/ToyasCard.lean, 'card_holds'). Laid BY PROGRAM, IN A SANDBOX (cutbox-door.mjs). By AI agents, Wed Nov 11 2026. No macro, syntax, notation, axiom, sorry.
-/
import Derived.Test.YtjlgjodjakkjgaaDoorRows
import GoSem.ClaimSeven
namespace Go.Proofs.YtjlgjodjakkjgaaDoor
namespace Rows

/-- THE TIED CARD OF 'groovelaw40.AlphabeticAscending'. -/
def alphabeticAscendingCard : Claim7 := { stood := { row := alphabeticAscendingRow, standIns := [], harness := (true, "abd72898cb06bebee8ae820564b2572af3f51515324835d9636894d241ae69aa"), looks := false }, kinds := [], alts := [], laidByText := true, laidKinds := [.data, .pinned], laidTests := true, laidLooks := .later }
def AlphabeticAscendingCardSaid : Prop := Claim7.holds Tryd.pinned (.plain (OpenSpec.ofChange alphabeticAscendingSpec)) alphabeticAscendingCard

/-- THE SECOND FORM's CARD OF 'groovelaw40.AlphabeticAscending'. -/
def alphabeticAscendingUptoCard : Claim7 := { stood := { row := alphabeticAscendingUptoRow, standIns := [], harness := (true, "abd72898cb06bebee8ae820564b2572af3f51515324835d9636894d241ae69aa"), looks := false }, kinds := [], alts := [], laidByText := true, laidKinds := [.data, .pinned], laidTests := true, laidLooks := .later }
def AlphabeticAscendingUptoCardSaid : Prop := Claim7.holds Tryd.pinned (.plain (OpenSpec.upto alphabeticAscendingSpec)) alphabeticAscendingUptoCard
end Rows
end Go.Proofs.YtjlgjodjakkjgaaDoor
