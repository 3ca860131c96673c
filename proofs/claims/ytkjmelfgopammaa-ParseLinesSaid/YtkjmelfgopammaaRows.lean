/-
  No cell of these rows narrows 'for every input' (looked for: loops, veiled, ifaces, maps, wideKeys, modest, calm, conditions, laid).
  DERIVED. THE GIVEN ROWS OF THIS SEAT. 9 by the template 'for every input the law returns true; each argument reads behind the call as it read before'; 0 by the template 'total and deterministic' (their statements: YtkjmelfgopammaaTotals.lean).
  GIVEN WITH THE SEED: the statements are not yours to turn. If you find one false, say at which input.
  Laid BY PROGRAM, IN A SANDBOX (cutbox-rows.mjs): the forced cells as the released guide's own fill.sh prints them over the translation b17a2822124025d4… (all of the seat's roots in one cut). By AI agents, Wed Nov 11 2026. No macro, syntax, notation, axiom, sorry.
-/
import Derived.Test.YtkjmelfgopammaaChecked
import GoSem.Claim
import GoSem.ClaimJoined
import GoSem.ClaimMapViews
import Derived.JoinedTies
import Derived.KernelRfl
namespace Go.Proofs.Ytkjmelfgopammaa
/- THE CELL 'sum', in the pinned program and in every row, IS THE sha256 OF THE DUMP (.gsa) THAT YtkjmelfgopammaaProg.lean LOADS. Nothing in Lean hashes anything: it is a label: what it is worth is what the hold of that sum in a sandbox is worth. -/
noncomputable def Try.pinned : Pinned := { name := "ytkjmelfgopammaa", sum := "b17a2822124025d4b757c361ac7d5b9d3b170413212a909e95faa3b1ad1ebdb7", checked := Try.checked }
namespace Rows
def none {H : Type} : Left H := { results := [], args := [] }

/-- 'depotlaw12.WordsRuns': WHATEVER THE INPUT: true; the input reads as it did. -/
def wordsRunsSpec : ChangeSpec := { name := "wordsRuns", fn := fun _ => fun
  | [] => { results := [.lit (.bool true)], args := [] }
  | _ => none }
def wordsRunsRow : OpenClaim := { program := "ytkjmelfgopammaa", sum := "b17a2822124025d4b757c361ac7d5b9d3b170413212a909e95faa3b1ad1ebdb7", func := "depot/depotlaw12.WordsRuns", spec := "wordsRuns", apart := false }
def WordsRunsSaid : Prop := wordsRunsRow.holds Try.pinned (OpenSpec.ofChange wordsRunsSpec)

/-- ITS FALSE NEIGHBOUR: 'it returns false'. Refute it at one input. -/
def wordsRunsWrong : ChangeSpec := { name := "wordsRuns", fn := fun _ => fun
  | [] => { results := [.lit (.bool false)], args := [] }
  | _ => none }
def WordsRunsWrongFalsely : Prop := wordsRunsRow.holds Try.pinned (OpenSpec.ofChange wordsRunsWrong)

/-- 'depotlaw12.WordsTells': WHATEVER THE INPUT: true; the input reads as it did. -/
def wordsTellsSpec : ChangeSpec := { name := "wordsTells", fn := fun _ => fun
  | [d1, d2, d3, d4] => { results := [.lit (.bool true)], args := [d1, d2, d3, d4] }
  | _ => none }
def wordsTellsRow : OpenClaim := { program := "ytkjmelfgopammaa", sum := "b17a2822124025d4b757c361ac7d5b9d3b170413212a909e95faa3b1ad1ebdb7", func := "depot/depotlaw12.WordsTells", spec := "wordsTells", apart := false }
def WordsTellsSaid : Prop := wordsTellsRow.holds Try.pinned (OpenSpec.ofChange wordsTellsSpec)

/-- ITS FALSE NEIGHBOUR: 'it returns false'. Refute it at one input. -/
def wordsTellsWrong : ChangeSpec := { name := "wordsTells", fn := fun _ => fun
  | [d1, d2, d3, d4] => { results := [.lit (.bool false)], args := [d1, d2, d3, d4] }
  | _ => none }
def WordsTellsWrongFalsely : Prop := wordsTellsRow.holds Try.pinned (OpenSpec.ofChange wordsTellsWrong)

/-- 'depotlaw12.WordsSplit': WHATEVER THE INPUT: true; the input reads as it did. -/
def wordsSplitSpec : ChangeSpec := { name := "wordsSplit", fn := fun _ => fun
  | [d1, d2, d3] => { results := [.lit (.bool true)], args := [d1, d2, d3] }
  | _ => none }
def wordsSplitRow : OpenClaim := { program := "ytkjmelfgopammaa", sum := "b17a2822124025d4b757c361ac7d5b9d3b170413212a909e95faa3b1ad1ebdb7", func := "depot/depotlaw12.WordsSplit", spec := "wordsSplit", apart := false }
def WordsSplitSaid : Prop := wordsSplitRow.holds Try.pinned (OpenSpec.ofChange wordsSplitSpec)

/-- ITS FALSE NEIGHBOUR: 'it returns false'. Refute it at one input. -/
def wordsSplitWrong : ChangeSpec := { name := "wordsSplit", fn := fun _ => fun
  | [d1, d2, d3] => { results := [.lit (.bool false)], args := [d1, d2, d3] }
  | _ => none }
def WordsSplitWrongFalsely : Prop := wordsSplitRow.holds Try.pinned (OpenSpec.ofChange wordsSplitWrong)

/-- 'depotlaw12.WordsQuiet': WHATEVER THE INPUT: true; the input reads as it did. -/
def wordsQuietSpec : ChangeSpec := { name := "wordsQuiet", fn := fun _ => fun
  | [d] => { results := [.lit (.bool true)], args := [d] }
  | _ => none }
def wordsQuietRow : OpenClaim := { program := "ytkjmelfgopammaa", sum := "b17a2822124025d4b757c361ac7d5b9d3b170413212a909e95faa3b1ad1ebdb7", func := "depot/depotlaw12.WordsQuiet", spec := "wordsQuiet", apart := false }
def WordsQuietSaid : Prop := wordsQuietRow.holds Try.pinned (OpenSpec.ofChange wordsQuietSpec)

/-- ITS FALSE NEIGHBOUR: 'it returns false'. Refute it at one input. -/
def wordsQuietWrong : ChangeSpec := { name := "wordsQuiet", fn := fun _ => fun
  | [d] => { results := [.lit (.bool false)], args := [d] }
  | _ => none }
def WordsQuietWrongFalsely : Prop := wordsQuietRow.holds Try.pinned (OpenSpec.ofChange wordsQuietWrong)

/-- 'depotlaw12.WordsKeys': WHATEVER THE INPUT: true; the input reads as it did. -/
def wordsKeysSpec : ChangeSpec := { name := "wordsKeys", fn := fun _ => fun
  | [d1, d2] => { results := [.lit (.bool true)], args := [d1, d2] }
  | _ => none }
def wordsKeysRow : OpenClaim := { program := "ytkjmelfgopammaa", sum := "b17a2822124025d4b757c361ac7d5b9d3b170413212a909e95faa3b1ad1ebdb7", func := "depot/depotlaw12.WordsKeys", spec := "wordsKeys", apart := false }
def WordsKeysSaid : Prop := wordsKeysRow.holds Try.pinned (OpenSpec.ofChange wordsKeysSpec)

/-- ITS FALSE NEIGHBOUR: 'it returns false'. Refute it at one input. -/
def wordsKeysWrong : ChangeSpec := { name := "wordsKeys", fn := fun _ => fun
  | [d1, d2] => { results := [.lit (.bool false)], args := [d1, d2] }
  | _ => none }
def WordsKeysWrongFalsely : Prop := wordsKeysRow.holds Try.pinned (OpenSpec.ofChange wordsKeysWrong)

/-- 'depotlaw13.ParseRuns': WHATEVER THE INPUT: true; the input reads as it did. -/
def parseRunsSpec : ChangeSpec := { name := "parseRuns", fn := fun _ => fun
  | [] => { results := [.lit (.bool true)], args := [] }
  | _ => none }
def parseRunsRow : OpenClaim := { program := "ytkjmelfgopammaa", sum := "b17a2822124025d4b757c361ac7d5b9d3b170413212a909e95faa3b1ad1ebdb7", func := "depot/depotlaw13.ParseRuns", spec := "parseRuns", inPlace := ["internal/bytealg.IndexByteString"], apart := false }
def ParseRunsSaid : Prop := parseRunsRow.holds Try.pinned (OpenSpec.ofChange parseRunsSpec)

/-- ITS FALSE NEIGHBOUR: 'it returns false'. Refute it at one input. -/
def parseRunsWrong : ChangeSpec := { name := "parseRuns", fn := fun _ => fun
  | [] => { results := [.lit (.bool false)], args := [] }
  | _ => none }
def ParseRunsWrongFalsely : Prop := parseRunsRow.holds Try.pinned (OpenSpec.ofChange parseRunsWrong)

/-- 'depotlaw13.ParseTells': WHATEVER THE INPUT: true; the input reads as it did. -/
def parseTellsSpec : ChangeSpec := { name := "parseTells", fn := fun _ => fun
  | [d] => { results := [.lit (.bool true)], args := [d] }
  | _ => none }
def parseTellsRow : OpenClaim := { program := "ytkjmelfgopammaa", sum := "b17a2822124025d4b757c361ac7d5b9d3b170413212a909e95faa3b1ad1ebdb7", func := "depot/depotlaw13.ParseTells", spec := "parseTells", inPlace := ["internal/bytealg.IndexByteString"], apart := false }
def ParseTellsSaid : Prop := parseTellsRow.holds Try.pinned (OpenSpec.ofChange parseTellsSpec)

/-- ITS FALSE NEIGHBOUR: 'it returns false'. Refute it at one input. -/
def parseTellsWrong : ChangeSpec := { name := "parseTells", fn := fun _ => fun
  | [d] => { results := [.lit (.bool false)], args := [d] }
  | _ => none }
def ParseTellsWrongFalsely : Prop := parseTellsRow.holds Try.pinned (OpenSpec.ofChange parseTellsWrong)

/-- 'depotlaw13.ParseCuts': WHATEVER THE INPUT: true; the input reads as it did. -/
def parseCutsSpec : ChangeSpec := { name := "parseCuts", fn := fun _ => fun
  | [d1, d2] => { results := [.lit (.bool true)], args := [d1, d2] }
  | _ => none }
def parseCutsRow : OpenClaim := { program := "ytkjmelfgopammaa", sum := "b17a2822124025d4b757c361ac7d5b9d3b170413212a909e95faa3b1ad1ebdb7", func := "depot/depotlaw13.ParseCuts", spec := "parseCuts", inPlace := ["internal/bytealg.IndexByteString"], apart := false }
def ParseCutsSaid : Prop := parseCutsRow.holds Try.pinned (OpenSpec.ofChange parseCutsSpec)

/-- ITS FALSE NEIGHBOUR: 'it returns false'. Refute it at one input. -/
def parseCutsWrong : ChangeSpec := { name := "parseCuts", fn := fun _ => fun
  | [d1, d2] => { results := [.lit (.bool false)], args := [d1, d2] }
  | _ => none }
def ParseCutsWrongFalsely : Prop := parseCutsRow.holds Try.pinned (OpenSpec.ofChange parseCutsWrong)

/-- 'depotlaw13.ParseLines': WHATEVER THE INPUT: true; the input reads as it did. -/
def parseLinesSpec : ChangeSpec := { name := "parseLines", fn := fun _ => fun
  | [d] => { results := [.lit (.bool true)], args := [d] }
  | _ => none }
def parseLinesRow : OpenClaim := { program := "ytkjmelfgopammaa", sum := "b17a2822124025d4b757c361ac7d5b9d3b170413212a909e95faa3b1ad1ebdb7", func := "depot/depotlaw13.ParseLines", spec := "parseLines", inPlace := ["internal/bytealg.IndexByteString"], apart := false }
def ParseLinesSaid : Prop := parseLinesRow.holds Try.pinned (OpenSpec.ofChange parseLinesSpec)

/-- ITS FALSE NEIGHBOUR: 'it returns false'. Refute it at one input. -/
def parseLinesWrong : ChangeSpec := { name := "parseLines", fn := fun _ => fun
  | [d] => { results := [.lit (.bool false)], args := [d] }
  | _ => none }
def ParseLinesWrongFalsely : Prop := parseLinesRow.holds Try.pinned (OpenSpec.ofChange parseLinesWrong)

/- THE SECOND FORM. 'bulk': how many values and letters a reading holds, each counted each time it is reached (what is shared counts as often as it is met; a slice's spare places count too). A statement '..UptoSaid' is the law's where the arguments, and the package variables that the reading takes, are together of bulk at most 1048576: NARROWER than '..Said'. Prove '..Said' where nothing that the law and all that it calls make is longer than what came in: it says more and counts as full. Else prove '..UptoSaid'. A law counts once. -/
mutual
def uptoBulk {H : Type} : DataW H → Nat
  | .lit (.string bytes) => bytes.length + 1
  | .lit _ => 1
  | .nil => 1
  | .ptr d => uptoBulk d + 1
  | .slice elems spare => uptoBulkAll elems + uptoBulkAll spare + 1
  | .agg parts => uptoBulkAll parts + 1
  | .iface _ d => uptoBulk d + 1
  | .map entries => uptoBulkEntries entries + 1
  | .held _ => 1
def uptoBulkAll {H : Type} : List (DataW H) → Nat
  | [] => 0
  | d :: r => uptoBulk d + uptoBulkAll r
def uptoBulkEntries {H : Type} : List (Lit × DataW H) → Nat
  | [] => 0
  | x :: r => uptoBulkEntry x + uptoBulkEntries r
def uptoBulkEntry {H : Type} : Lit × DataW H → Nat
  | (.string bytes, d) => bytes.length + uptoBulk d + 1
  | (_, d) => uptoBulk d + 1
 end
def uptoSmall : (H : Type) → List (DataW H) → Bool := fun _ ds => decide (uptoBulkAll ds ≤ 1048576)
def OpenSpec.upto (s : _root_.Go.ChangeSpec) : _root_.Go.OpenSpec := { _root_.Go.OpenSpec.ofChange s with cond := some uptoSmall }

/-- 'depotlaw12.WordsRuns', WHERE WHAT IT READS IS OF BULK AT MOST 1048576: true; the input reads as it did. -/
def wordsRunsUptoRow : OpenClaim := { program := "ytkjmelfgopammaa", sum := "b17a2822124025d4b757c361ac7d5b9d3b170413212a909e95faa3b1ad1ebdb7", func := "depot/depotlaw12.WordsRuns", spec := "wordsRuns", apart := false, narrowed := true }
def WordsRunsUptoSaid : Prop := wordsRunsUptoRow.holds Try.pinned (OpenSpec.upto wordsRunsSpec)

/-- 'depotlaw12.WordsTells', WHERE WHAT IT READS IS OF BULK AT MOST 1048576: true; the input reads as it did. -/
def wordsTellsUptoRow : OpenClaim := { program := "ytkjmelfgopammaa", sum := "b17a2822124025d4b757c361ac7d5b9d3b170413212a909e95faa3b1ad1ebdb7", func := "depot/depotlaw12.WordsTells", spec := "wordsTells", apart := false, narrowed := true }
def WordsTellsUptoSaid : Prop := wordsTellsUptoRow.holds Try.pinned (OpenSpec.upto wordsTellsSpec)

/-- 'depotlaw12.WordsSplit', WHERE WHAT IT READS IS OF BULK AT MOST 1048576: true; the input reads as it did. -/
def wordsSplitUptoRow : OpenClaim := { program := "ytkjmelfgopammaa", sum := "b17a2822124025d4b757c361ac7d5b9d3b170413212a909e95faa3b1ad1ebdb7", func := "depot/depotlaw12.WordsSplit", spec := "wordsSplit", apart := false, narrowed := true }
def WordsSplitUptoSaid : Prop := wordsSplitUptoRow.holds Try.pinned (OpenSpec.upto wordsSplitSpec)

/-- 'depotlaw12.WordsQuiet', WHERE WHAT IT READS IS OF BULK AT MOST 1048576: true; the input reads as it did. -/
def wordsQuietUptoRow : OpenClaim := { program := "ytkjmelfgopammaa", sum := "b17a2822124025d4b757c361ac7d5b9d3b170413212a909e95faa3b1ad1ebdb7", func := "depot/depotlaw12.WordsQuiet", spec := "wordsQuiet", apart := false, narrowed := true }
def WordsQuietUptoSaid : Prop := wordsQuietUptoRow.holds Try.pinned (OpenSpec.upto wordsQuietSpec)

/-- 'depotlaw12.WordsKeys', WHERE WHAT IT READS IS OF BULK AT MOST 1048576: true; the input reads as it did. -/
def wordsKeysUptoRow : OpenClaim := { program := "ytkjmelfgopammaa", sum := "b17a2822124025d4b757c361ac7d5b9d3b170413212a909e95faa3b1ad1ebdb7", func := "depot/depotlaw12.WordsKeys", spec := "wordsKeys", apart := false, narrowed := true }
def WordsKeysUptoSaid : Prop := wordsKeysUptoRow.holds Try.pinned (OpenSpec.upto wordsKeysSpec)

/-- 'depotlaw13.ParseRuns', WHERE WHAT IT READS IS OF BULK AT MOST 1048576: true; the input reads as it did. -/
def parseRunsUptoRow : OpenClaim := { program := "ytkjmelfgopammaa", sum := "b17a2822124025d4b757c361ac7d5b9d3b170413212a909e95faa3b1ad1ebdb7", func := "depot/depotlaw13.ParseRuns", spec := "parseRuns", inPlace := ["internal/bytealg.IndexByteString"], apart := false, narrowed := true }
def ParseRunsUptoSaid : Prop := parseRunsUptoRow.holds Try.pinned (OpenSpec.upto parseRunsSpec)

/-- 'depotlaw13.ParseTells', WHERE WHAT IT READS IS OF BULK AT MOST 1048576: true; the input reads as it did. -/
def parseTellsUptoRow : OpenClaim := { program := "ytkjmelfgopammaa", sum := "b17a2822124025d4b757c361ac7d5b9d3b170413212a909e95faa3b1ad1ebdb7", func := "depot/depotlaw13.ParseTells", spec := "parseTells", inPlace := ["internal/bytealg.IndexByteString"], apart := false, narrowed := true }
def ParseTellsUptoSaid : Prop := parseTellsUptoRow.holds Try.pinned (OpenSpec.upto parseTellsSpec)

/-- 'depotlaw13.ParseCuts', WHERE WHAT IT READS IS OF BULK AT MOST 1048576: true; the input reads as it did. -/
def parseCutsUptoRow : OpenClaim := { program := "ytkjmelfgopammaa", sum := "b17a2822124025d4b757c361ac7d5b9d3b170413212a909e95faa3b1ad1ebdb7", func := "depot/depotlaw13.ParseCuts", spec := "parseCuts", inPlace := ["internal/bytealg.IndexByteString"], apart := false, narrowed := true }
def ParseCutsUptoSaid : Prop := parseCutsUptoRow.holds Try.pinned (OpenSpec.upto parseCutsSpec)

/-- 'depotlaw13.ParseLines', WHERE WHAT IT READS IS OF BULK AT MOST 1048576: true; the input reads as it did. -/
def parseLinesUptoRow : OpenClaim := { program := "ytkjmelfgopammaa", sum := "b17a2822124025d4b757c361ac7d5b9d3b170413212a909e95faa3b1ad1ebdb7", func := "depot/depotlaw13.ParseLines", spec := "parseLines", inPlace := ["internal/bytealg.IndexByteString"], apart := false, narrowed := true }
def ParseLinesUptoSaid : Prop := parseLinesUptoRow.holds Try.pinned (OpenSpec.upto parseLinesSpec)

end Rows
end Go.Proofs.Ytkjmelfgopammaa
