/-
  DERIVED. GIVEN WITH THE SEED: THE CARDS: each row of YtihoblfmhighpaaDoorRows.lean that lists a variable, with what it lists TIED to the program's text (the seventh form; the later family's looks); each row that meets fmt, with fmt's text TOLD by the authors' own Lean function (tested against real Go, not proved from fmt's source: count such statements apart). THE CARD IS WHAT COUNTS. Prove the row's statement (the work); the ties are given (YtihoblfmhighpaaDoorTie.lean); close each card by the builder's one call (the guide's Derived/Test/ToyasCard.lean, 'card_holds'). Laid BY PROGRAM, IN A SANDBOX (cutbox-door.mjs). By AI agents, Wed Nov 11 2026. No macro, syntax, notation, axiom, sorry.
-/
import Derived.Test.YtihoblfmhighpaaDoorRows
import GoSem.ClaimSeven
namespace Go.Proofs.YtihoblfmhighpaaDoor
namespace Rows

/-- THE TIED CARD OF 'depotlaw17.SlotVersions'. -/
def slotVersionsCard : Claim7 := { stood := { row := slotVersionsRow, standIns := [], harness := (true, "e0f49baa601823438a4340436bc3f227023ab59857092f68d0a4b42bd86fffb6"), looks := false }, kinds := [], alts := [], laidByText := true, laidKinds := [.data, .data, .data], laidTests := true, laidLooks := .later }
def SlotVersionsCardSaid : Prop := Claim7.holds Tryd.pinned (.plain (OpenSpec.ofChange slotVersionsSpec)) slotVersionsCard

/-- THE SECOND FORM's CARD OF 'depotlaw17.SlotVersions'. -/
def slotVersionsUptoCard : Claim7 := { stood := { row := slotVersionsUptoRow, standIns := [], harness := (true, "e0f49baa601823438a4340436bc3f227023ab59857092f68d0a4b42bd86fffb6"), looks := false }, kinds := [], alts := [], laidByText := true, laidKinds := [.data, .data, .data], laidTests := true, laidLooks := .later }
def SlotVersionsUptoCardSaid : Prop := Claim7.holds Tryd.pinned (.plain (OpenSpec.upto slotVersionsSpec)) slotVersionsUptoCard
end Rows
end Go.Proofs.YtihoblfmhighpaaDoor
