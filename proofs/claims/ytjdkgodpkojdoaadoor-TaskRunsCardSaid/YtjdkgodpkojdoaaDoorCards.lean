/-
  DERIVED. GIVEN WITH THE SEED: THE CARDS: each row of YtjdkgodpkojdoaaDoorRows.lean that lists a variable, with what it lists TIED to the program's text (the seventh form; the later family's looks); each row that meets fmt, with fmt's text TOLD by the authors' own Lean function (tested against real Go, not proved from fmt's source: count such statements apart). THE CARD IS WHAT COUNTS. Prove the row's statement (the work); the ties are given (YtjdkgodpkojdoaaDoorTie.lean); close each card by the builder's one call (the guide's Derived/Test/ToyasCard.lean, 'card_holds'). Laid BY PROGRAM, IN A SANDBOX (cutbox-door.mjs). By AI agents, Wed Nov 11 2026. No macro, syntax, notation, axiom, sorry.
-/
import Derived.Test.YtjdkgodpkojdoaaDoorRows
import GoSem.ClaimSeven
namespace Go.Proofs.YtjdkgodpkojdoaaDoor
namespace Rows

/-- THE TIED CARD OF 'depotlaw21.TaskRuns'. -/
def taskRunsCard : Claim7 := { stood := { row := taskRunsRow, standIns := [], harness := (true, "2ee5ada55a808a158cd19b96e5232c4b3564afd1781fc23cebc5b52a33aae750"), looks := false }, kinds := [], alts := [], laidByText := true, laidKinds := [.data, .data, .data], laidTests := true, laidLooks := .later }
def TaskRunsCardSaid : Prop := Claim7.holds Tryd.pinned (.plain (OpenSpec.ofChange taskRunsSpec)) taskRunsCard

/-- THE SECOND FORM's CARD OF 'depotlaw21.TaskRuns'. -/
def taskRunsUptoCard : Claim7 := { stood := { row := taskRunsUptoRow, standIns := [], harness := (true, "2ee5ada55a808a158cd19b96e5232c4b3564afd1781fc23cebc5b52a33aae750"), looks := false }, kinds := [], alts := [], laidByText := true, laidKinds := [.data, .data, .data], laidTests := true, laidLooks := .later }
def TaskRunsUptoCardSaid : Prop := Claim7.holds Tryd.pinned (.plain (OpenSpec.upto taskRunsSpec)) taskRunsUptoCard
end Rows
end Go.Proofs.YtjdkgodpkojdoaaDoor
