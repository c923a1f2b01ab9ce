/-
  DERIVED. GIVEN WITH THE SEED: THE CARDS: each row of YtamempcabmlodaaGreatDoorRows.lean that lists a variable, with what it lists TIED to the program's text (the seventh form; the later family's looks); each row that meets fmt, with fmt's text TOLD by the authors' own Lean function (tested against real Go, not proved from fmt's source: count such statements apart). THE CARD IS WHAT COUNTS. Prove the row's statement (the work); the ties are given (YtamempcabmlodaaGreatDoorTie.lean); close each card by the builder's one call (the guide's Derived/Test/ToyasCard.lean, 'card_holds'). Laid BY PROGRAM, IN A SANDBOX (cutbox-door.mjs). By AI agents, Wed Nov 11 2026. No macro, syntax, notation, axiom, sorry.
-/
import Derived.Test.YtamempcabmlodaaGreatDoorRows
import GoSem.ClaimSeven
namespace Go.Proofs.YtamempcabmlodaaGreatDoor
namespace Rows

/-- THE TIED CARD OF 'groovelaw02.RationalArithmetic'. -/
def rationalArithmeticCard : Claim7 := { stood := { row := rationalArithmeticRow, standIns := [], harness := (true, "25d320dad5fde4a23317684c3bb028b0b580a3006327f92b5a485558236f93fa"), looks := false }, kinds := [], alts := [], laidByText := true, laidKinds := [.data, .pinned], laidTests := true, laidLooks := .later }
def RationalArithmeticCardSaid : Prop := Claim7.holds Tryz.pinned (.plain (OpenSpec.ofChange rationalArithmeticSpec)) rationalArithmeticCard

/-- THE TIED CARD OF 'groovelaw02.RationalOthers'. -/
def rationalOthersCard : Claim7 := { stood := { row := rationalOthersRow, standIns := [], harness := (true, "25d320dad5fde4a23317684c3bb028b0b580a3006327f92b5a485558236f93fa"), looks := false }, kinds := [], alts := [], laidByText := true, laidKinds := [.data, .pinned], laidTests := true, laidLooks := .later }
def RationalOthersCardSaid : Prop := Claim7.holds Tryz.pinned (.plain (OpenSpec.ofChange rationalOthersSpec)) rationalOthersCard

/-- THE SECOND FORM's CARD OF 'groovelaw02.RationalArithmetic'. -/
def rationalArithmeticUptoCard : Claim7 := { stood := { row := rationalArithmeticUptoRow, standIns := [], harness := (true, "25d320dad5fde4a23317684c3bb028b0b580a3006327f92b5a485558236f93fa"), looks := false }, kinds := [], alts := [], laidByText := true, laidKinds := [.data, .pinned], laidTests := true, laidLooks := .later }
def RationalArithmeticUptoCardSaid : Prop := Claim7.holds Tryz.pinned (.plain (OpenSpec.upto rationalArithmeticSpec)) rationalArithmeticUptoCard

/-- THE SECOND FORM's CARD OF 'groovelaw02.RationalOthers'. -/
def rationalOthersUptoCard : Claim7 := { stood := { row := rationalOthersUptoRow, standIns := [], harness := (true, "25d320dad5fde4a23317684c3bb028b0b580a3006327f92b5a485558236f93fa"), looks := false }, kinds := [], alts := [], laidByText := true, laidKinds := [.data, .pinned], laidTests := true, laidLooks := .later }
def RationalOthersUptoCardSaid : Prop := Claim7.holds Tryz.pinned (.plain (OpenSpec.upto rationalOthersSpec)) rationalOthersUptoCard
end Rows
end Go.Proofs.YtamempcabmlodaaGreatDoor
