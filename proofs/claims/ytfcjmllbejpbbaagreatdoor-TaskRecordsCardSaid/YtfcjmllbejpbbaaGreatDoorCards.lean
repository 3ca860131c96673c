/-
  DERIVED. GIVEN WITH THE SEED: THE CARDS: each row of YtfcjmllbejpbbaaGreatDoorRows.lean that lists a variable, with what it lists TIED to the program's text (the seventh form; the later family's looks); each row that meets fmt, with fmt's text TOLD by the authors' own Lean function (tested against real Go, not proved from fmt's source: count such statements apart). THE CARD IS WHAT COUNTS. Prove the row's statement (the work); the ties are given (YtfcjmllbejpbbaaGreatDoorTie.lean); close each card by the builder's one call (the guide's Derived/Test/ToyasCard.lean, 'card_holds'). Laid BY PROGRAM, IN A SANDBOX (cutbox-door.mjs). By AI agents, Wed Nov 11 2026. No macro, syntax, notation, axiom, sorry.
-/
import Derived.Test.YtfcjmllbejpbbaaGreatDoorRows
import GoSem.ClaimSeven
namespace Go.Proofs.YtfcjmllbejpbbaaGreatDoor
namespace Rows

/-- THE TIED CARD OF 'depotlaw21.TaskRecords'. -/
def taskRecordsCard : Claim7 := { stood := { row := taskRecordsRow, standIns := [], harness := (true, "b2f812ee12509256d6db14569515f02c8eeb4ee964ed3f78a214739c28c99e94"), looks := false }, kinds := [], alts := [], laidByText := true, laidKinds := [.data, .data, .data], laidTests := true, laidLooks := .later }
def TaskRecordsCardSaid : Prop := Claim7.holds Tryz.pinned (.plain (OpenSpec.ofChange taskRecordsSpec)) taskRecordsCard

/-- THE SECOND FORM's CARD OF 'depotlaw21.TaskRecords'. -/
def taskRecordsUptoCard : Claim7 := { stood := { row := taskRecordsUptoRow, standIns := [], harness := (true, "b2f812ee12509256d6db14569515f02c8eeb4ee964ed3f78a214739c28c99e94"), looks := false }, kinds := [], alts := [], laidByText := true, laidKinds := [.data, .data, .data], laidTests := true, laidLooks := .later }
def TaskRecordsUptoCardSaid : Prop := Claim7.holds Tryz.pinned (.plain (OpenSpec.upto taskRecordsSpec)) taskRecordsUptoCard
end Rows
end Go.Proofs.YtfcjmllbejpbbaaGreatDoor
