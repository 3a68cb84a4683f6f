/-
  DERIVED. GIVEN WITH THE SEED: THE CARDS: each row of YtpemlmhggiaflaaGreatDoorRows.lean that lists a variable, with what it lists TIED to the program's text (the seventh form; the later family's looks); each row that meets fmt, with fmt's text TOLD by the authors' own Lean function (tested against real Go, not proved from fmt's source: count such statements apart). THE CARD IS WHAT COUNTS. Prove the row's statement (the work); the ties are given (YtpemlmhggiaflaaGreatDoorTie.lean); close each card by the builder's one call (the guide's Derived/Test/ToyasCard.lean, 'card_holds'). Laid BY PROGRAM, IN A SANDBOX (cutbox-door.mjs). By AI agents, Wed Nov 11 2026. No macro, syntax, notation, axiom, sorry.
-/
import Derived.Test.YtpemlmhggiaflaaGreatDoorRows
import GoSem.ClaimSeven
namespace Go.Proofs.YtpemlmhggiaflaaGreatDoor
namespace Rows

/-- THE TIED CARD OF 'handloomlaw33.TraceTells'. -/
def traceTellsCard : Claim7 := { stood := { row := traceTellsRow, standIns := [], harness := (true, "ae5c650a799fce03aca989ef3ad35324ba309c3b5204cbfb6c7e946ae733de1a"), looks := true }, kinds := [], alts := [], laidByText := true, laidKinds := [.data, .data, .data, .data, .sentinel, .sentinel, .pinned], laidTests := true, laidLooks := .later }
def TraceTellsCardSaid : Prop := Claim7.holds Tryz.pinned (.plain (OpenSpec.ofChange traceTellsSpec)) traceTellsCard

/-- THE TIED CARD OF 'handloomlaw33.TraceBack'. -/
def traceBackCard : Claim7 := { stood := { row := traceBackRow, standIns := [], harness := (true, "ae5c650a799fce03aca989ef3ad35324ba309c3b5204cbfb6c7e946ae733de1a"), looks := true }, kinds := [], alts := [], laidByText := true, laidKinds := [.data, .data, .data, .data, .sentinel, .sentinel, .pinned], laidTests := true, laidLooks := .later }
def TraceBackCardSaid : Prop := Claim7.holds Tryz.pinned (.plain (OpenSpec.ofChange traceBackSpec)) traceBackCard

/-- THE TIED CARD OF 'handloomlaw33.TraceWaits'. -/
def traceWaitsCard : Claim7 := { stood := { row := traceWaitsRow, standIns := [], harness := (true, "ae5c650a799fce03aca989ef3ad35324ba309c3b5204cbfb6c7e946ae733de1a"), looks := true }, kinds := [], alts := [], laidByText := true, laidKinds := [.data, .data, .data, .data, .sentinel, .sentinel, .pinned], laidTests := true, laidLooks := .later }
def TraceWaitsCardSaid : Prop := Claim7.holds Tryz.pinned (.plain (OpenSpec.ofChange traceWaitsSpec)) traceWaitsCard

/-- THE SECOND FORM's CARD OF 'handloomlaw33.TraceTells'. -/
def traceTellsUptoCard : Claim7 := { stood := { row := traceTellsUptoRow, standIns := [], harness := (true, "ae5c650a799fce03aca989ef3ad35324ba309c3b5204cbfb6c7e946ae733de1a"), looks := true }, kinds := [], alts := [], laidByText := true, laidKinds := [.data, .data, .data, .data, .sentinel, .sentinel, .pinned], laidTests := true, laidLooks := .later }
def TraceTellsUptoCardSaid : Prop := Claim7.holds Tryz.pinned (.plain (OpenSpec.upto traceTellsSpec)) traceTellsUptoCard

/-- THE SECOND FORM's CARD OF 'handloomlaw33.TraceBack'. -/
def traceBackUptoCard : Claim7 := { stood := { row := traceBackUptoRow, standIns := [], harness := (true, "ae5c650a799fce03aca989ef3ad35324ba309c3b5204cbfb6c7e946ae733de1a"), looks := true }, kinds := [], alts := [], laidByText := true, laidKinds := [.data, .data, .data, .data, .sentinel, .sentinel, .pinned], laidTests := true, laidLooks := .later }
def TraceBackUptoCardSaid : Prop := Claim7.holds Tryz.pinned (.plain (OpenSpec.upto traceBackSpec)) traceBackUptoCard

/-- THE SECOND FORM's CARD OF 'handloomlaw33.TraceWaits'. -/
def traceWaitsUptoCard : Claim7 := { stood := { row := traceWaitsUptoRow, standIns := [], harness := (true, "ae5c650a799fce03aca989ef3ad35324ba309c3b5204cbfb6c7e946ae733de1a"), looks := true }, kinds := [], alts := [], laidByText := true, laidKinds := [.data, .data, .data, .data, .sentinel, .sentinel, .pinned], laidTests := true, laidLooks := .later }
def TraceWaitsUptoCardSaid : Prop := Claim7.holds Tryz.pinned (.plain (OpenSpec.upto traceWaitsSpec)) traceWaitsUptoCard
end Rows
end Go.Proofs.YtpemlmhggiaflaaGreatDoor
