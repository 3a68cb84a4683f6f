/-
  DERIVED. GIVEN WITH THE SEED: THE CARDS: each row of YtnklhhmfmopdnaaGreatDoorRows.lean that lists a variable, with what it lists TIED to the program's text (the seventh form; the later family's looks); each row that meets fmt, with fmt's text TOLD by the authors' own Lean function (tested against real Go, not proved from fmt's source: count such statements apart). THE CARD IS WHAT COUNTS. Prove the row's statement (the work); the ties are given (YtnklhhmfmopdnaaGreatDoorTie.lean); close each card by the builder's one call (the guide's Derived/Test/ToyasCard.lean, 'card_holds'). Laid BY PROGRAM, IN A SANDBOX (cutbox-door.mjs). By AI agents, Wed Nov 11 2026. No macro, syntax, notation, axiom, sorry.
-/
import Derived.Test.YtnklhhmfmopdnaaGreatDoorRows
import GoSem.ClaimSeven
namespace Go.Proofs.YtnklhhmfmopdnaaGreatDoor
namespace Rows

/-- THE TIED CARD OF 'handloomlaw12.EvalDoes'. -/
def evalDoesCard : Claim7 := { stood := { row := evalDoesRow, standIns := [], harness := (true, "1eaaeb34b1f6bd0a605fdffb78c867c7e2411769b481a37f1308a8bec6344d50"), looks := true }, kinds := [], alts := [], laidByText := true, laidKinds := [.data, .handle, .pinned], laidTests := true, laidLooks := .later }
def EvalDoesCardSaid : Prop := Claim7.holds Tryz.pinned (.plain (OpenSpec.ofChange evalDoesSpec)) evalDoesCard

/-- THE TIED CARD OF 'handloomlaw12.EvalTexts'. -/
def evalTextsCard : Claim7 := { stood := { row := evalTextsRow, standIns := [], harness := (true, "1eaaeb34b1f6bd0a605fdffb78c867c7e2411769b481a37f1308a8bec6344d50"), looks := true }, kinds := [], alts := [], laidByText := true, laidKinds := [.data, .handle, .pinned], laidTests := true, laidLooks := .later }
def EvalTextsCardSaid : Prop := Claim7.holds Tryz.pinned (.plain (OpenSpec.ofChange evalTextsSpec)) evalTextsCard

/-- THE SECOND FORM's CARD OF 'handloomlaw12.EvalDoes'. -/
def evalDoesUptoCard : Claim7 := { stood := { row := evalDoesUptoRow, standIns := [], harness := (true, "1eaaeb34b1f6bd0a605fdffb78c867c7e2411769b481a37f1308a8bec6344d50"), looks := true }, kinds := [], alts := [], laidByText := true, laidKinds := [.data, .handle, .pinned], laidTests := true, laidLooks := .later }
def EvalDoesUptoCardSaid : Prop := Claim7.holds Tryz.pinned (.plain (OpenSpec.upto evalDoesSpec)) evalDoesUptoCard

/-- THE SECOND FORM's CARD OF 'handloomlaw12.EvalTexts'. -/
def evalTextsUptoCard : Claim7 := { stood := { row := evalTextsUptoRow, standIns := [], harness := (true, "1eaaeb34b1f6bd0a605fdffb78c867c7e2411769b481a37f1308a8bec6344d50"), looks := true }, kinds := [], alts := [], laidByText := true, laidKinds := [.data, .handle, .pinned], laidTests := true, laidLooks := .later }
def EvalTextsUptoCardSaid : Prop := Claim7.holds Tryz.pinned (.plain (OpenSpec.upto evalTextsSpec)) evalTextsUptoCard
end Rows
end Go.Proofs.YtnklhhmfmopdnaaGreatDoor
