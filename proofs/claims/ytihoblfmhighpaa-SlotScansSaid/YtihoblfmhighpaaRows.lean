/-
  No cell of these rows narrows 'for every input' (looked for: loops, veiled, ifaces, maps, wideKeys, modest, calm, conditions, laid).
  DERIVED. THE GIVEN ROWS OF THIS SEAT. 4 by the template 'for every input the law returns true; each argument reads behind the call as it read before'; 0 by the template 'total and deterministic' (their statements: YtihoblfmhighpaaTotals.lean).
  GIVEN WITH THE SEED: the statements are not yours to turn. If you find one false, say at which input.
  Laid BY PROGRAM, IN A SANDBOX (cutbox-rows.mjs): the forced cells as the released guide's own fill.sh prints them over the translation 6b56017566ad6fed… (all of the seat's roots in one cut). By AI agents, Wed Nov 11 2026. No macro, syntax, notation, axiom, sorry.
-/
import Derived.Test.YtihoblfmhighpaaChecked
import GoSem.Claim
import GoSem.ClaimJoined
import GoSem.ClaimMapViews
import Derived.JoinedTies
import Derived.KernelRfl
namespace Go.Proofs.Ytihoblfmhighpaa
/- THE CELL 'sum', in the pinned program and in every row, IS THE sha256 OF THE DUMP (.gsa) THAT YtihoblfmhighpaaProg.lean LOADS. Nothing in Lean hashes anything: it is a label: what it is worth is what the hold of that sum in a sandbox is worth. -/
noncomputable def Try.pinned : Pinned := { name := "ytihoblfmhighpaa", sum := "6b56017566ad6fed15998e77d809c2c25fc4e449cbbeae224e8a05d349c4f2e9", checked := Try.checked }
namespace Rows
def none {H : Type} : Left H := { results := [], args := [] }

/-- 'depotlaw17.SlotRuns': WHATEVER THE INPUT: true; the input reads as it did. -/
def slotRunsSpec : ChangeSpec := { name := "slotRuns", fn := fun _ => fun
  | [] => { results := [.lit (.bool true)], args := [] }
  | _ => none }
def slotRunsRow : OpenClaim := { program := "ytihoblfmhighpaa", sum := "6b56017566ad6fed15998e77d809c2c25fc4e449cbbeae224e8a05d349c4f2e9", func := "depot/depotlaw17.SlotRuns", spec := "slotRuns", unfollowed := true, recurses := true, apart := false }
def SlotRunsSaid : Prop := slotRunsRow.holds Try.pinned (OpenSpec.ofChange slotRunsSpec)

/-- ITS FALSE NEIGHBOUR: 'it returns false'. Refute it at one input. -/
def slotRunsWrong : ChangeSpec := { name := "slotRuns", fn := fun _ => fun
  | [] => { results := [.lit (.bool false)], args := [] }
  | _ => none }
def SlotRunsWrongFalsely : Prop := slotRunsRow.holds Try.pinned (OpenSpec.ofChange slotRunsWrong)

/-- 'depotlaw17.SlotOnce': WHATEVER THE INPUT: true; the input reads as it did. -/
def slotOnceSpec : ChangeSpec := { name := "slotOnce", fn := fun _ => fun
  | [d1, d2] => { results := [.lit (.bool true)], args := [d1, d2] }
  | _ => none }
def slotOnceRow : OpenClaim := { program := "ytihoblfmhighpaa", sum := "6b56017566ad6fed15998e77d809c2c25fc4e449cbbeae224e8a05d349c4f2e9", func := "depot/depotlaw17.SlotOnce", spec := "slotOnce", unfollowed := true, recurses := true, apart := false }
def SlotOnceSaid : Prop := slotOnceRow.holds Try.pinned (OpenSpec.ofChange slotOnceSpec)

/-- ITS FALSE NEIGHBOUR: 'it returns false'. Refute it at one input. -/
def slotOnceWrong : ChangeSpec := { name := "slotOnce", fn := fun _ => fun
  | [d1, d2] => { results := [.lit (.bool false)], args := [d1, d2] }
  | _ => none }
def SlotOnceWrongFalsely : Prop := slotOnceRow.holds Try.pinned (OpenSpec.ofChange slotOnceWrong)

/-- 'depotlaw17.SlotFences': WHATEVER THE INPUT: true; the input reads as it did. -/
def slotFencesSpec : ChangeSpec := { name := "slotFences", fn := fun _ => fun
  | [d1, d2] => { results := [.lit (.bool true)], args := [d1, d2] }
  | _ => none }
def slotFencesRow : OpenClaim := { program := "ytihoblfmhighpaa", sum := "6b56017566ad6fed15998e77d809c2c25fc4e449cbbeae224e8a05d349c4f2e9", func := "depot/depotlaw17.SlotFences", spec := "slotFences", unfollowed := true, recurses := true, apart := false }
def SlotFencesSaid : Prop := slotFencesRow.holds Try.pinned (OpenSpec.ofChange slotFencesSpec)

/-- ITS FALSE NEIGHBOUR: 'it returns false'. Refute it at one input. -/
def slotFencesWrong : ChangeSpec := { name := "slotFences", fn := fun _ => fun
  | [d1, d2] => { results := [.lit (.bool false)], args := [d1, d2] }
  | _ => none }
def SlotFencesWrongFalsely : Prop := slotFencesRow.holds Try.pinned (OpenSpec.ofChange slotFencesWrong)

/-- 'depotlaw17.SlotScans': WHATEVER THE INPUT: true; the input reads as it did. -/
def slotScansSpec : ChangeSpec := { name := "slotScans", fn := fun _ => fun
  | [d] => { results := [.lit (.bool true)], args := [d] }
  | _ => none }
def slotScansRow : OpenClaim := { program := "ytihoblfmhighpaa", sum := "6b56017566ad6fed15998e77d809c2c25fc4e449cbbeae224e8a05d349c4f2e9", func := "depot/depotlaw17.SlotScans", spec := "slotScans", unfollowed := true, recurses := true, apart := false }
def SlotScansSaid : Prop := slotScansRow.holds Try.pinned (OpenSpec.ofChange slotScansSpec)

/-- ITS FALSE NEIGHBOUR: 'it returns false'. Refute it at one input. -/
def slotScansWrong : ChangeSpec := { name := "slotScans", fn := fun _ => fun
  | [d] => { results := [.lit (.bool false)], args := [d] }
  | _ => none }
def SlotScansWrongFalsely : Prop := slotScansRow.holds Try.pinned (OpenSpec.ofChange slotScansWrong)

/- THE SECOND FORM. 'bulk': how many values and letters a reading holds, each counted each time it is reached (what is shared counts as often as it is met; a slice's spare places count too). A statement '..UptoSaid' is the law's where the arguments, and the package variables that the reading takes, are together of bulk at most 1048576: NARROWER than '..Said'. Prove '..Said' where nothing that the law and all that it calls make is longer than what came in: it says more and counts as full. Else prove '..UptoSaid'. A law counts once. -/
mutual
def uptoBulk {H : Type} : DataW H → Nat
  | .lit (.string bytes) => bytes.length + 1
  | .lit _ => 1
  | .nil => 1
  | .ptr d => uptoBulk d + 1
  | .slice elems spare => uptoBulkAll elems + uptoBulkAll spare + 1
  | .agg parts => uptoBulkAll parts + 1
  | .iface _ d => uptoBulk d + 1
  | .map entries => uptoBulkEntries entries + 1
  | .held _ => 1
def uptoBulkAll {H : Type} : List (DataW H) → Nat
  | [] => 0
  | d :: r => uptoBulk d + uptoBulkAll r
def uptoBulkEntries {H : Type} : List (Lit × DataW H) → Nat
  | [] => 0
  | x :: r => uptoBulkEntry x + uptoBulkEntries r
def uptoBulkEntry {H : Type} : Lit × DataW H → Nat
  | (.string bytes, d) => bytes.length + uptoBulk d + 1
  | (_, d) => uptoBulk d + 1
 end
def uptoSmall : (H : Type) → List (DataW H) → Bool := fun _ ds => decide (uptoBulkAll ds ≤ 1048576)
def OpenSpec.upto (s : _root_.Go.ChangeSpec) : _root_.Go.OpenSpec := { _root_.Go.OpenSpec.ofChange s with cond := some uptoSmall }

/-- 'depotlaw17.SlotRuns', WHERE WHAT IT READS IS OF BULK AT MOST 1048576: true; the input reads as it did. -/
def slotRunsUptoRow : OpenClaim := { program := "ytihoblfmhighpaa", sum := "6b56017566ad6fed15998e77d809c2c25fc4e449cbbeae224e8a05d349c4f2e9", func := "depot/depotlaw17.SlotRuns", spec := "slotRuns", unfollowed := true, recurses := true, apart := false, narrowed := true }
def SlotRunsUptoSaid : Prop := slotRunsUptoRow.holds Try.pinned (OpenSpec.upto slotRunsSpec)

/-- 'depotlaw17.SlotOnce', WHERE WHAT IT READS IS OF BULK AT MOST 1048576: true; the input reads as it did. -/
def slotOnceUptoRow : OpenClaim := { program := "ytihoblfmhighpaa", sum := "6b56017566ad6fed15998e77d809c2c25fc4e449cbbeae224e8a05d349c4f2e9", func := "depot/depotlaw17.SlotOnce", spec := "slotOnce", unfollowed := true, recurses := true, apart := false, narrowed := true }
def SlotOnceUptoSaid : Prop := slotOnceUptoRow.holds Try.pinned (OpenSpec.upto slotOnceSpec)

/-- 'depotlaw17.SlotFences', WHERE WHAT IT READS IS OF BULK AT MOST 1048576: true; the input reads as it did. -/
def slotFencesUptoRow : OpenClaim := { program := "ytihoblfmhighpaa", sum := "6b56017566ad6fed15998e77d809c2c25fc4e449cbbeae224e8a05d349c4f2e9", func := "depot/depotlaw17.SlotFences", spec := "slotFences", unfollowed := true, recurses := true, apart := false, narrowed := true }
def SlotFencesUptoSaid : Prop := slotFencesUptoRow.holds Try.pinned (OpenSpec.upto slotFencesSpec)

/-- 'depotlaw17.SlotScans', WHERE WHAT IT READS IS OF BULK AT MOST 1048576: true; the input reads as it did. -/
def slotScansUptoRow : OpenClaim := { program := "ytihoblfmhighpaa", sum := "6b56017566ad6fed15998e77d809c2c25fc4e449cbbeae224e8a05d349c4f2e9", func := "depot/depotlaw17.SlotScans", spec := "slotScans", unfollowed := true, recurses := true, apart := false, narrowed := true }
def SlotScansUptoSaid : Prop := slotScansUptoRow.holds Try.pinned (OpenSpec.upto slotScansSpec)

end Rows
end Go.Proofs.Ytihoblfmhighpaa
