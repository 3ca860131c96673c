/-
  No cell of these rows narrows 'for every input' (looked for: loops, veiled, ifaces, maps, wideKeys, modest, calm, conditions, laid).
  DERIVED. THE GIVEN ROWS OF THIS SEAT. 4 by the template 'for every input the law returns true; each argument reads behind the call as it read before'; 0 by the template 'total and deterministic' (their statements: YtcpcajfmkmgjeaaTotals.lean).
  GIVEN WITH THE SEED: the statements are not yours to turn. If you find one false, say at which input.
  Laid BY PROGRAM, IN A SANDBOX (cutbox-rows.mjs): the forced cells as the released guide's own fill.sh prints them over the translation b2827af0f9adbfa8… (all of the seat's roots in one cut). By AI agents, Wed Nov 11 2026. No macro, syntax, notation, axiom, sorry.
-/
import Derived.Test.YtcpcajfmkmgjeaaChecked
import GoSem.Claim
import GoSem.ClaimJoined
import GoSem.ClaimMapViews
import Derived.JoinedTies
import Derived.KernelRfl
namespace Go.Proofs.Ytcpcajfmkmgjeaa
/- THE CELL 'sum', in the pinned program and in every row, IS THE sha256 OF THE DUMP (.gsa) THAT YtcpcajfmkmgjeaaProg.lean LOADS. Nothing in Lean hashes anything: it is a label: what it is worth is what the hold of that sum in a sandbox is worth. -/
noncomputable def Try.pinned : Pinned := { name := "ytcpcajfmkmgjeaa", sum := "b2827af0f9adbfa8517fac19287278fa00b169c96db2e1800383d9002d868e06", checked := Try.checked }
namespace Rows
def none {H : Type} : Left H := { results := [], args := [] }

/-- 'depotlaw19.AskRuns': WHATEVER THE INPUT: true; the input reads as it did. -/
def askRunsSpec : ChangeSpec := { name := "askRuns", fn := fun _ => fun
  | [] => { results := [.lit (.bool true)], args := [] }
  | _ => none }
def askRunsRow : OpenClaim := { program := "ytcpcajfmkmgjeaa", sum := "b2827af0f9adbfa8517fac19287278fa00b169c96db2e1800383d9002d868e06", func := "depot/depotlaw19.AskRuns", spec := "askRuns", recurses := true, apart := false }
def AskRunsSaid : Prop := askRunsRow.holds Try.pinned (OpenSpec.ofChange askRunsSpec)

/-- ITS FALSE NEIGHBOUR: 'it returns false'. Refute it at one input. -/
def askRunsWrong : ChangeSpec := { name := "askRuns", fn := fun _ => fun
  | [] => { results := [.lit (.bool false)], args := [] }
  | _ => none }
def AskRunsWrongFalsely : Prop := askRunsRow.holds Try.pinned (OpenSpec.ofChange askRunsWrong)

/-- 'depotlaw19.AskOnce': WHATEVER THE INPUT: true; the input reads as it did. -/
def askOnceSpec : ChangeSpec := { name := "askOnce", fn := fun _ => fun
  | [d1, d2, d3] => { results := [.lit (.bool true)], args := [d1, d2, d3] }
  | _ => none }
def askOnceRow : OpenClaim := { program := "ytcpcajfmkmgjeaa", sum := "b2827af0f9adbfa8517fac19287278fa00b169c96db2e1800383d9002d868e06", func := "depot/depotlaw19.AskOnce", spec := "askOnce", unfollowed := true, recurses := true, apart := false }
def AskOnceSaid : Prop := askOnceRow.holds Try.pinned (OpenSpec.ofChange askOnceSpec)

/-- ITS FALSE NEIGHBOUR: 'it returns false'. Refute it at one input. -/
def askOnceWrong : ChangeSpec := { name := "askOnce", fn := fun _ => fun
  | [d1, d2, d3] => { results := [.lit (.bool false)], args := [d1, d2, d3] }
  | _ => none }
def AskOnceWrongFalsely : Prop := askOnceRow.holds Try.pinned (OpenSpec.ofChange askOnceWrong)

/-- 'depotlaw19.AskLate': WHATEVER THE INPUT: true; the input reads as it did. -/
def askLateSpec : ChangeSpec := { name := "askLate", fn := fun _ => fun
  | [d1, d2, d3, d4] => { results := [.lit (.bool true)], args := [d1, d2, d3, d4] }
  | _ => none }
def askLateRow : OpenClaim := { program := "ytcpcajfmkmgjeaa", sum := "b2827af0f9adbfa8517fac19287278fa00b169c96db2e1800383d9002d868e06", func := "depot/depotlaw19.AskLate", spec := "askLate", recurses := true, apart := false }
def AskLateSaid : Prop := askLateRow.holds Try.pinned (OpenSpec.ofChange askLateSpec)

/-- ITS FALSE NEIGHBOUR: 'it returns false'. Refute it at one input. -/
def askLateWrong : ChangeSpec := { name := "askLate", fn := fun _ => fun
  | [d1, d2, d3, d4] => { results := [.lit (.bool false)], args := [d1, d2, d3, d4] }
  | _ => none }
def AskLateWrongFalsely : Prop := askLateRow.holds Try.pinned (OpenSpec.ofChange askLateWrong)

/-- 'depotlaw19.AskPlays': WHATEVER THE INPUT: true; the input reads as it did. -/
def askPlaysSpec : ChangeSpec := { name := "askPlays", fn := fun _ => fun
  | [d] => { results := [.lit (.bool true)], args := [d] }
  | _ => none }
def askPlaysRow : OpenClaim := { program := "ytcpcajfmkmgjeaa", sum := "b2827af0f9adbfa8517fac19287278fa00b169c96db2e1800383d9002d868e06", func := "depot/depotlaw19.AskPlays", spec := "askPlays", recurses := true, apart := false }
def AskPlaysSaid : Prop := askPlaysRow.holds Try.pinned (OpenSpec.ofChange askPlaysSpec)

/-- ITS FALSE NEIGHBOUR: 'it returns false'. Refute it at one input. -/
def askPlaysWrong : ChangeSpec := { name := "askPlays", fn := fun _ => fun
  | [d] => { results := [.lit (.bool false)], args := [d] }
  | _ => none }
def AskPlaysWrongFalsely : Prop := askPlaysRow.holds Try.pinned (OpenSpec.ofChange askPlaysWrong)

/- THE SECOND FORM. 'bulk': how many values and letters a reading holds, each counted each time it is reached (what is shared counts as often as it is met; a slice's spare places count too). A statement '..UptoSaid' is the law's where the arguments, and the package variables that the reading takes, are together of bulk at most 1048576: NARROWER than '..Said'. Prove '..Said' where nothing that the law and all that it calls make is longer than what came in: it says more and counts as full. Else prove '..UptoSaid'. A law counts once. -/
mutual
def uptoBulk {H : Type} : DataW H → Nat
  | .lit (.string bytes) => bytes.length + 1
  | .lit _ => 1
  | .nil => 1
  | .ptr d => uptoBulk d + 1
  | .slice elems spare => uptoBulkAll elems + uptoBulkAll spare + 1
  | .agg parts => uptoBulkAll parts + 1
  | .iface _ d => uptoBulk d + 1
  | .map entries => uptoBulkEntries entries + 1
  | .held _ => 1
def uptoBulkAll {H : Type} : List (DataW H) → Nat
  | [] => 0
  | d :: r => uptoBulk d + uptoBulkAll r
def uptoBulkEntries {H : Type} : List (Lit × DataW H) → Nat
  | [] => 0
  | x :: r => uptoBulkEntry x + uptoBulkEntries r
def uptoBulkEntry {H : Type} : Lit × DataW H → Nat
  | (.string bytes, d) => bytes.length + uptoBulk d + 1
  | (_, d) => uptoBulk d + 1
 end
def uptoSmall : (H : Type) → List (DataW H) → Bool := fun _ ds => decide (uptoBulkAll ds ≤ 1048576)
def OpenSpec.upto (s : _root_.Go.ChangeSpec) : _root_.Go.OpenSpec := { _root_.Go.OpenSpec.ofChange s with cond := some uptoSmall }

/-- 'depotlaw19.AskRuns', WHERE WHAT IT READS IS OF BULK AT MOST 1048576: true; the input reads as it did. -/
def askRunsUptoRow : OpenClaim := { program := "ytcpcajfmkmgjeaa", sum := "b2827af0f9adbfa8517fac19287278fa00b169c96db2e1800383d9002d868e06", func := "depot/depotlaw19.AskRuns", spec := "askRuns", recurses := true, apart := false, narrowed := true }
def AskRunsUptoSaid : Prop := askRunsUptoRow.holds Try.pinned (OpenSpec.upto askRunsSpec)

/-- 'depotlaw19.AskOnce', WHERE WHAT IT READS IS OF BULK AT MOST 1048576: true; the input reads as it did. -/
def askOnceUptoRow : OpenClaim := { program := "ytcpcajfmkmgjeaa", sum := "b2827af0f9adbfa8517fac19287278fa00b169c96db2e1800383d9002d868e06", func := "depot/depotlaw19.AskOnce", spec := "askOnce", unfollowed := true, recurses := true, apart := false, narrowed := true }
def AskOnceUptoSaid : Prop := askOnceUptoRow.holds Try.pinned (OpenSpec.upto askOnceSpec)

/-- 'depotlaw19.AskLate', WHERE WHAT IT READS IS OF BULK AT MOST 1048576: true; the input reads as it did. -/
def askLateUptoRow : OpenClaim := { program := "ytcpcajfmkmgjeaa", sum := "b2827af0f9adbfa8517fac19287278fa00b169c96db2e1800383d9002d868e06", func := "depot/depotlaw19.AskLate", spec := "askLate", recurses := true, apart := false, narrowed := true }
def AskLateUptoSaid : Prop := askLateUptoRow.holds Try.pinned (OpenSpec.upto askLateSpec)

/-- 'depotlaw19.AskPlays', WHERE WHAT IT READS IS OF BULK AT MOST 1048576: true; the input reads as it did. -/
def askPlaysUptoRow : OpenClaim := { program := "ytcpcajfmkmgjeaa", sum := "b2827af0f9adbfa8517fac19287278fa00b169c96db2e1800383d9002d868e06", func := "depot/depotlaw19.AskPlays", spec := "askPlays", recurses := true, apart := false, narrowed := true }
def AskPlaysUptoSaid : Prop := askPlaysUptoRow.holds Try.pinned (OpenSpec.upto askPlaysSpec)

end Rows
end Go.Proofs.Ytcpcajfmkmgjeaa
