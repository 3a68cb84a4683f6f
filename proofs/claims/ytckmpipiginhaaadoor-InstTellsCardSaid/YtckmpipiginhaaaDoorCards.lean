/-
  DERIVED. GIVEN WITH THE SEED: THE CARDS: each row of YtckmpipiginhaaaDoorRows.lean that lists a variable, with what it lists TIED to the program's text (the seventh form; the later family's looks); each row that meets fmt, with fmt's text TOLD by the authors' own Lean function (tested against real Go, not proved from fmt's source: count such statements apart). THE CARD IS WHAT COUNTS. Prove the row's statement (the work); the ties are given (YtckmpipiginhaaaDoorTie.lean); close each card by the builder's one call (the guide's Derived/Test/ToyasCard.lean, 'card_holds'). Laid BY PROGRAM, IN A SANDBOX (cutbox-door.mjs). By AI agents, Wed Nov 11 2026. No macro, syntax, notation, axiom, sorry.
-/
import Derived.Test.YtckmpipiginhaaaDoorRows
import GoSem.ClaimSeven
namespace Go.Proofs.YtckmpipiginhaaaDoor
namespace Rows

/-- THE TIED CARD OF 'handloomlaw19.InstGoes'. -/
def instGoesCard : Claim7 := { stood := { row := instGoesRow, standIns := [], harness := (true, "e3ea47d03b9d5067153bae6f28da4eed01e6936ed1e9a36427b9044a41df5e80"), looks := true }, kinds := [], alts := [], laidByText := true, laidKinds := [.data, .data, .data, .data, .sentinel, .sentinel, .pinned], laidTests := true, laidLooks := .later }
def InstGoesCardSaid : Prop := Claim7.holds Tryd.pinned (.plain (OpenSpec.ofChange instGoesSpec)) instGoesCard

/-- THE TIED CARD OF 'handloomlaw19.InstTells'. -/
def instTellsCard : Claim7 := { stood := { row := instTellsRow, standIns := [], harness := (true, "e3ea47d03b9d5067153bae6f28da4eed01e6936ed1e9a36427b9044a41df5e80"), looks := true }, kinds := [], alts := [], laidByText := true, laidKinds := [.data, .data, .data, .data, .sentinel, .sentinel, .pinned], laidTests := true, laidLooks := .later }
def InstTellsCardSaid : Prop := Claim7.holds Tryd.pinned (.plain (OpenSpec.ofChange instTellsSpec)) instTellsCard

/-- THE TIED CARD OF 'handloomlaw19.InstBack'. -/
def instBackCard : Claim7 := { stood := { row := instBackRow, standIns := [], harness := (true, "e3ea47d03b9d5067153bae6f28da4eed01e6936ed1e9a36427b9044a41df5e80"), looks := true }, kinds := [], alts := [], laidByText := true, laidKinds := [.data, .data, .data, .data, .sentinel, .sentinel, .pinned], laidTests := true, laidLooks := .later }
def InstBackCardSaid : Prop := Claim7.holds Tryd.pinned (.plain (OpenSpec.ofChange instBackSpec)) instBackCard

/-- THE SECOND FORM's CARD OF 'handloomlaw19.InstGoes'. -/
def instGoesUptoCard : Claim7 := { stood := { row := instGoesUptoRow, standIns := [], harness := (true, "e3ea47d03b9d5067153bae6f28da4eed01e6936ed1e9a36427b9044a41df5e80"), looks := true }, kinds := [], alts := [], laidByText := true, laidKinds := [.data, .data, .data, .data, .sentinel, .sentinel, .pinned], laidTests := true, laidLooks := .later }
def InstGoesUptoCardSaid : Prop := Claim7.holds Tryd.pinned (.plain (OpenSpec.upto instGoesSpec)) instGoesUptoCard

/-- THE SECOND FORM's CARD OF 'handloomlaw19.InstTells'. -/
def instTellsUptoCard : Claim7 := { stood := { row := instTellsUptoRow, standIns := [], harness := (true, "e3ea47d03b9d5067153bae6f28da4eed01e6936ed1e9a36427b9044a41df5e80"), looks := true }, kinds := [], alts := [], laidByText := true, laidKinds := [.data, .data, .data, .data, .sentinel, .sentinel, .pinned], laidTests := true, laidLooks := .later }
def InstTellsUptoCardSaid : Prop := Claim7.holds Tryd.pinned (.plain (OpenSpec.upto instTellsSpec)) instTellsUptoCard

/-- THE SECOND FORM's CARD OF 'handloomlaw19.InstBack'. -/
def instBackUptoCard : Claim7 := { stood := { row := instBackUptoRow, standIns := [], harness := (true, "e3ea47d03b9d5067153bae6f28da4eed01e6936ed1e9a36427b9044a41df5e80"), looks := true }, kinds := [], alts := [], laidByText := true, laidKinds := [.data, .data, .data, .data, .sentinel, .sentinel, .pinned], laidTests := true, laidLooks := .later }
def InstBackUptoCardSaid : Prop := Claim7.holds Tryd.pinned (.plain (OpenSpec.upto instBackSpec)) instBackUptoCard
end Rows
end Go.Proofs.YtckmpipiginhaaaDoor
