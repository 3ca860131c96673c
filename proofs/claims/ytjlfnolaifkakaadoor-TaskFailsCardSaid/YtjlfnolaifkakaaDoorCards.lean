/-
  DERIVED. GIVEN WITH THE SEED: THE CARDS: each row of YtjlfnolaifkakaaDoorRows.lean that lists a variable, with what it lists TIED to the program's text (the seventh form; the later family's looks); each row that meets fmt, with fmt's text TOLD by the authors' own Lean function (tested against real Go, not proved from fmt's source: count such statements apart). THE CARD IS WHAT COUNTS. Prove the row's statement (the work); the ties are given (YtjlfnolaifkakaaDoorTie.lean); close each card by the builder's one call (the guide's Derived/Test/ToyasCard.lean, 'card_holds'). Laid BY PROGRAM, IN A SANDBOX (cutbox-door.mjs). By AI agents, Wed Nov 11 2026. No macro, syntax, notation, axiom, sorry.
-/
import Derived.Test.YtjlfnolaifkakaaDoorRows
import GoSem.ClaimSeven
namespace Go.Proofs.YtjlfnolaifkakaaDoor
namespace Rows

/-- THE TIED CARD OF 'depotlaw21.TaskRuns'. -/
def taskRunsCard : Claim7 := { stood := { row := taskRunsRow, standIns := [], harness := (true, "3a2d76932c07c1136b20cee9248a1267bcdd891ff05ae5e84170e7b58b3e49d4"), looks := false }, kinds := [], alts := [], laidByText := true, laidKinds := [.data, .data, .data], laidTests := true, laidLooks := .later }
def TaskRunsCardSaid : Prop := Claim7.holds Tryd.pinned (.plain (OpenSpec.ofChange taskRunsSpec)) taskRunsCard

/-- THE TIED CARD OF 'depotlaw21.TaskUnasked'. -/
def taskUnaskedCard : Claim7 := { stood := { row := taskUnaskedRow, standIns := [], harness := (true, "3a2d76932c07c1136b20cee9248a1267bcdd891ff05ae5e84170e7b58b3e49d4"), looks := false }, kinds := [], alts := [], laidByText := true, laidKinds := [.data, .data, .data], laidTests := true, laidLooks := .later }
def TaskUnaskedCardSaid : Prop := Claim7.holds Tryd.pinned (.plain (OpenSpec.ofChange taskUnaskedSpec)) taskUnaskedCard

/-- THE TIED CARD OF 'depotlaw21.TaskFails'. -/
def taskFailsCard : Claim7 := { stood := { row := taskFailsRow, standIns := [], harness := (true, "3a2d76932c07c1136b20cee9248a1267bcdd891ff05ae5e84170e7b58b3e49d4"), looks := false }, kinds := [], alts := [], laidByText := true, laidKinds := [.data, .data, .data], laidTests := true, laidLooks := .later }
def TaskFailsCardSaid : Prop := Claim7.holds Tryd.pinned (.plain (OpenSpec.ofChange taskFailsSpec)) taskFailsCard

/-- THE SECOND FORM's CARD OF 'depotlaw21.TaskRuns'. -/
def taskRunsUptoCard : Claim7 := { stood := { row := taskRunsUptoRow, standIns := [], harness := (true, "3a2d76932c07c1136b20cee9248a1267bcdd891ff05ae5e84170e7b58b3e49d4"), looks := false }, kinds := [], alts := [], laidByText := true, laidKinds := [.data, .data, .data], laidTests := true, laidLooks := .later }
def TaskRunsUptoCardSaid : Prop := Claim7.holds Tryd.pinned (.plain (OpenSpec.upto taskRunsSpec)) taskRunsUptoCard

/-- THE SECOND FORM's CARD OF 'depotlaw21.TaskUnasked'. -/
def taskUnaskedUptoCard : Claim7 := { stood := { row := taskUnaskedUptoRow, standIns := [], harness := (true, "3a2d76932c07c1136b20cee9248a1267bcdd891ff05ae5e84170e7b58b3e49d4"), looks := false }, kinds := [], alts := [], laidByText := true, laidKinds := [.data, .data, .data], laidTests := true, laidLooks := .later }
def TaskUnaskedUptoCardSaid : Prop := Claim7.holds Tryd.pinned (.plain (OpenSpec.upto taskUnaskedSpec)) taskUnaskedUptoCard

/-- THE SECOND FORM's CARD OF 'depotlaw21.TaskFails'. -/
def taskFailsUptoCard : Claim7 := { stood := { row := taskFailsUptoRow, standIns := [], harness := (true, "3a2d76932c07c1136b20cee9248a1267bcdd891ff05ae5e84170e7b58b3e49d4"), looks := false }, kinds := [], alts := [], laidByText := true, laidKinds := [.data, .data, .data], laidTests := true, laidLooks := .later }
def TaskFailsUptoCardSaid : Prop := Claim7.holds Tryd.pinned (.plain (OpenSpec.upto taskFailsSpec)) taskFailsUptoCard
end Rows
end Go.Proofs.YtjlfnolaifkakaaDoor
