/-
  DERIVED. GIVEN WITH THE SEED: THE CARDS: each row of YtoadpaaghjomnaaDoorRows.lean that lists a variable, with what it lists TIED to the program's text (the seventh form; the later family's looks); each row that meets fmt, with fmt's text TOLD by the authors' own Lean function (tested against real Go, not proved from fmt's source: count such statements apart). THE CARD IS WHAT COUNTS. Prove the row's statement (the work); the ties are given (YtoadpaaghjomnaaDoorTie.lean); close each card by the builder's one call (the guide's Derived/Test/ToyasCard.lean, 'card_holds'). Laid BY PROGRAM, IN A SANDBOX (cutbox-door.mjs). By AI agents, Wed Nov 11 2026. No macro, syntax, notation, axiom, sorry.
-/
import Derived.Test.YtoadpaaghjomnaaDoorRows
import GoSem.ClaimSeven
namespace Go.Proofs.YtoadpaaghjomnaaDoor
namespace Rows

/-- THE TIED CARD OF 'handloomlaw28.ImageLines'. -/
def imageLinesCard : Claim7 := { stood := { row := imageLinesRow, standIns := [], harness := (true, "8feb408b6542fcabc5c0532e0f0a3c0503fa5ff58720d9116a8a521564653b3d"), looks := true }, kinds := [], alts := [], laidByText := true, laidKinds := [.data, .data, .data], laidTests := true, laidLooks := .later }
def ImageLinesCardSaid : Prop := Claim7.holds Tryd.pinned (.plain (OpenSpec.ofChange imageLinesSpec)) imageLinesCard

/-- THE TIED CARD OF 'handloomlaw03.LexDoes'. -/
def lexDoesCard : Claim7 := { stood := { row := lexDoesRow, standIns := [], harness := (true, "8feb408b6542fcabc5c0532e0f0a3c0503fa5ff58720d9116a8a521564653b3d"), looks := true }, kinds := [], alts := [], laidByText := true, laidKinds := [.data, .data, .data, .data, .pinned], laidTests := true, laidLooks := .later }
def LexDoesCardSaid : Prop := Claim7.holds Tryd.pinned (.plain (OpenSpec.ofChange lexDoesSpec)) lexDoesCard

/-- THE TIED CARD OF 'handloomlaw03.LexBack'. -/
def lexBackCard : Claim7 := { stood := { row := lexBackRow, standIns := [], harness := (true, "8feb408b6542fcabc5c0532e0f0a3c0503fa5ff58720d9116a8a521564653b3d"), looks := true }, kinds := [], alts := [], laidByText := true, laidKinds := [.data, .data, .data, .data, .pinned], laidTests := true, laidLooks := .later }
def LexBackCardSaid : Prop := Claim7.holds Tryd.pinned (.plain (OpenSpec.ofChange lexBackSpec)) lexBackCard

/-- THE TIED CARD OF 'handloomlaw03.LexPads'. -/
def lexPadsCard : Claim7 := { stood := { row := lexPadsRow, standIns := [], harness := (true, "8feb408b6542fcabc5c0532e0f0a3c0503fa5ff58720d9116a8a521564653b3d"), looks := true }, kinds := [], alts := [], laidByText := true, laidKinds := [.data, .data, .data, .data, .pinned], laidTests := true, laidLooks := .later }
def LexPadsCardSaid : Prop := Claim7.holds Tryd.pinned (.plain (OpenSpec.ofChange lexPadsSpec)) lexPadsCard

/-- THE TIED CARD OF 'handloomlaw03.LexNames'. -/
def lexNamesCard : Claim7 := { stood := { row := lexNamesRow, standIns := [], harness := (true, "8feb408b6542fcabc5c0532e0f0a3c0503fa5ff58720d9116a8a521564653b3d"), looks := true }, kinds := [], alts := [], laidByText := true, laidKinds := [.data, .data, .data, .data, .pinned], laidTests := true, laidLooks := .later }
def LexNamesCardSaid : Prop := Claim7.holds Tryd.pinned (.plain (OpenSpec.ofChange lexNamesSpec)) lexNamesCard

/-- THE SECOND FORM's CARD OF 'handloomlaw28.ImageLines'. -/
def imageLinesUptoCard : Claim7 := { stood := { row := imageLinesUptoRow, standIns := [], harness := (true, "8feb408b6542fcabc5c0532e0f0a3c0503fa5ff58720d9116a8a521564653b3d"), looks := true }, kinds := [], alts := [], laidByText := true, laidKinds := [.data, .data, .data], laidTests := true, laidLooks := .later }
def ImageLinesUptoCardSaid : Prop := Claim7.holds Tryd.pinned (.plain (OpenSpec.upto imageLinesSpec)) imageLinesUptoCard

/-- THE SECOND FORM's CARD OF 'handloomlaw03.LexDoes'. -/
def lexDoesUptoCard : Claim7 := { stood := { row := lexDoesUptoRow, standIns := [], harness := (true, "8feb408b6542fcabc5c0532e0f0a3c0503fa5ff58720d9116a8a521564653b3d"), looks := true }, kinds := [], alts := [], laidByText := true, laidKinds := [.data, .data, .data, .data, .pinned], laidTests := true, laidLooks := .later }
def LexDoesUptoCardSaid : Prop := Claim7.holds Tryd.pinned (.plain (OpenSpec.upto lexDoesSpec)) lexDoesUptoCard

/-- THE SECOND FORM's CARD OF 'handloomlaw03.LexBack'. -/
def lexBackUptoCard : Claim7 := { stood := { row := lexBackUptoRow, standIns := [], harness := (true, "8feb408b6542fcabc5c0532e0f0a3c0503fa5ff58720d9116a8a521564653b3d"), looks := true }, kinds := [], alts := [], laidByText := true, laidKinds := [.data, .data, .data, .data, .pinned], laidTests := true, laidLooks := .later }
def LexBackUptoCardSaid : Prop := Claim7.holds Tryd.pinned (.plain (OpenSpec.upto lexBackSpec)) lexBackUptoCard

/-- THE SECOND FORM's CARD OF 'handloomlaw03.LexPads'. -/
def lexPadsUptoCard : Claim7 := { stood := { row := lexPadsUptoRow, standIns := [], harness := (true, "8feb408b6542fcabc5c0532e0f0a3c0503fa5ff58720d9116a8a521564653b3d"), looks := true }, kinds := [], alts := [], laidByText := true, laidKinds := [.data, .data, .data, .data, .pinned], laidTests := true, laidLooks := .later }
def LexPadsUptoCardSaid : Prop := Claim7.holds Tryd.pinned (.plain (OpenSpec.upto lexPadsSpec)) lexPadsUptoCard

/-- THE SECOND FORM's CARD OF 'handloomlaw03.LexNames'. -/
def lexNamesUptoCard : Claim7 := { stood := { row := lexNamesUptoRow, standIns := [], harness := (true, "8feb408b6542fcabc5c0532e0f0a3c0503fa5ff58720d9116a8a521564653b3d"), looks := true }, kinds := [], alts := [], laidByText := true, laidKinds := [.data, .data, .data, .data, .pinned], laidTests := true, laidLooks := .later }
def LexNamesUptoCardSaid : Prop := Claim7.holds Tryd.pinned (.plain (OpenSpec.upto lexNamesSpec)) lexNamesUptoCard
end Rows
end Go.Proofs.YtoadpaaghjomnaaDoor
