/-
  DERIVED. GIVEN WITH THE SEED: THE CARDS: each row of YtobnlhfgebfebaaGreatDoorRows.lean that lists a variable, with what it lists TIED to the program's text (the seventh form; the later family's looks); each row that meets fmt, with fmt's text TOLD by the authors' own Lean function (tested against real Go, not proved from fmt's source: count such statements apart). THE CARD IS WHAT COUNTS. Prove the row's statement (the work); the ties are given (YtobnlhfgebfebaaGreatDoorTie.lean); close each card by the builder's one call (the guide's Derived/Test/ToyasCard.lean, 'card_holds'). Laid BY PROGRAM, IN A SANDBOX (cutbox-door.mjs). By AI agents, Wed Nov 11 2026. No macro, syntax, notation, axiom, sorry.
-/
import Derived.Test.YtobnlhfgebfebaaGreatDoorRows
import GoSem.ClaimSeven
namespace Go.Proofs.YtobnlhfgebfebaaGreatDoor
namespace Rows

/-- THE TIED CARD OF 'depotlaw24.ClusterRuns'. -/
def clusterRunsCard : Claim7 := { stood := { row := clusterRunsRow, standIns := [], harness := (true, "18f595543b34724a120b61d3fca471d2f244005c41b3419ddb9cc9268b817e6a"), looks := false }, kinds := [], alts := [], laidByText := true, laidKinds := [.data, .data, .data], laidTests := true, laidLooks := .later }
def ClusterRunsCardSaid : Prop := Claim7.holds Tryz.pinned (.plain (OpenSpec.ofChange clusterRunsSpec)) clusterRunsCard

/-- THE TIED CARD OF 'depotlaw24.ClusterIgnores'. -/
def clusterIgnoresCard : Claim7 := { stood := { row := clusterIgnoresRow, standIns := [], harness := (true, "18f595543b34724a120b61d3fca471d2f244005c41b3419ddb9cc9268b817e6a"), looks := false }, kinds := [], alts := [], laidByText := true, laidKinds := [.data, .data, .data], laidTests := true, laidLooks := .later }
def ClusterIgnoresCardSaid : Prop := Claim7.holds Tryz.pinned (.plain (OpenSpec.ofChange clusterIgnoresSpec)) clusterIgnoresCard

/-- THE SECOND FORM's CARD OF 'depotlaw24.ClusterRuns'. -/
def clusterRunsUptoCard : Claim7 := { stood := { row := clusterRunsUptoRow, standIns := [], harness := (true, "18f595543b34724a120b61d3fca471d2f244005c41b3419ddb9cc9268b817e6a"), looks := false }, kinds := [], alts := [], laidByText := true, laidKinds := [.data, .data, .data], laidTests := true, laidLooks := .later }
def ClusterRunsUptoCardSaid : Prop := Claim7.holds Tryz.pinned (.plain (OpenSpec.upto clusterRunsSpec)) clusterRunsUptoCard

/-- THE SECOND FORM's CARD OF 'depotlaw24.ClusterIgnores'. -/
def clusterIgnoresUptoCard : Claim7 := { stood := { row := clusterIgnoresUptoRow, standIns := [], harness := (true, "18f595543b34724a120b61d3fca471d2f244005c41b3419ddb9cc9268b817e6a"), looks := false }, kinds := [], alts := [], laidByText := true, laidKinds := [.data, .data, .data], laidTests := true, laidLooks := .later }
def ClusterIgnoresUptoCardSaid : Prop := Claim7.holds Tryz.pinned (.plain (OpenSpec.upto clusterIgnoresSpec)) clusterIgnoresUptoCard
end Rows
end Go.Proofs.YtobnlhfgebfebaaGreatDoor
