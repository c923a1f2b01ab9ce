/-
  DERIVED. GIVEN WITH THE SEED: THE CARDS: each row of YtpnhccpfbeidlaaDoorRows.lean that lists a variable, with what it lists TIED to the program's text (the seventh form; the later family's looks); each row that meets fmt, with fmt's text TOLD by the authors' own Lean function (tested against real Go, not proved from fmt's source: count such statements apart). THE CARD IS WHAT COUNTS. Prove the row's statement (the work); the ties are given (YtpnhccpfbeidlaaDoorTie.lean); close each card by the builder's one call (the guide's Derived/Test/ToyasCard.lean, 'card_holds'). Laid BY PROGRAM, IN A SANDBOX (cutbox-door.mjs). By AI agents, Wed Nov 11 2026. No macro, syntax, notation, axiom, sorry.
-/
import Derived.Test.YtpnhccpfbeidlaaDoorRows
import GoSem.ClaimSeven
namespace Go.Proofs.YtpnhccpfbeidlaaDoor
namespace Rows

/-- THE TIED CARD OF 'groovelaw01.IntegerTexts'. -/
def integerTextsCard : Claim7 := { stood := { row := integerTextsRow, standIns := [], harness := (true, "eef4284fcbf6a52ea0717f7ccfd8d04ff61c1e88e36310627716b4fdca00d7bf"), looks := false }, kinds := [], alts := [], laidByText := true, laidKinds := [.data, .pinned], laidTests := true, laidLooks := .later }
def IntegerTextsCardSaid : Prop := Claim7.holds Tryd.pinned (.plain (OpenSpec.ofChange integerTextsSpec)) integerTextsCard

/-- THE TIED CARD OF 'groovelaw01.IntegerDecimal'. -/
def integerDecimalCard : Claim7 := { stood := { row := integerDecimalRow, standIns := [], harness := (true, "eef4284fcbf6a52ea0717f7ccfd8d04ff61c1e88e36310627716b4fdca00d7bf"), looks := false }, kinds := [], alts := [], laidByText := true, laidKinds := [.data, .pinned], laidTests := true, laidLooks := .later }
def IntegerDecimalCardSaid : Prop := Claim7.holds Tryd.pinned (.plain (OpenSpec.ofChange integerDecimalSpec)) integerDecimalCard

/-- THE SECOND FORM's CARD OF 'groovelaw01.IntegerTexts'. -/
def integerTextsUptoCard : Claim7 := { stood := { row := integerTextsUptoRow, standIns := [], harness := (true, "eef4284fcbf6a52ea0717f7ccfd8d04ff61c1e88e36310627716b4fdca00d7bf"), looks := false }, kinds := [], alts := [], laidByText := true, laidKinds := [.data, .pinned], laidTests := true, laidLooks := .later }
def IntegerTextsUptoCardSaid : Prop := Claim7.holds Tryd.pinned (.plain (OpenSpec.upto integerTextsSpec)) integerTextsUptoCard

/-- THE SECOND FORM's CARD OF 'groovelaw01.IntegerDecimal'. -/
def integerDecimalUptoCard : Claim7 := { stood := { row := integerDecimalUptoRow, standIns := [], harness := (true, "eef4284fcbf6a52ea0717f7ccfd8d04ff61c1e88e36310627716b4fdca00d7bf"), looks := false }, kinds := [], alts := [], laidByText := true, laidKinds := [.data, .pinned], laidTests := true, laidLooks := .later }
def IntegerDecimalUptoCardSaid : Prop := Claim7.holds Tryd.pinned (.plain (OpenSpec.upto integerDecimalSpec)) integerDecimalUptoCard
end Rows
end Go.Proofs.YtpnhccpfbeidlaaDoor
