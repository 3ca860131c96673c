/-
  DERIVED. GIVEN WITH THE SEED: THE CARDS: each row of YtkjmelfgopammaaDoorRows.lean that lists a variable, with what it lists TIED to the program's text (the seventh form; the later family's looks); each row that meets fmt, with fmt's text TOLD by the authors' own Lean function (tested against real Go, not proved from fmt's source: count such statements apart). THE CARD IS WHAT COUNTS. Prove the row's statement (the work); the ties are given (YtkjmelfgopammaaDoorTie.lean); close each card by the builder's one call (the guide's Derived/Test/ToyasCard.lean, 'card_holds'). Laid BY PROGRAM, IN A SANDBOX (cutbox-door.mjs). By AI agents, Wed Nov 11 2026. No macro, syntax, notation, axiom, sorry.
-/
import Derived.Test.YtkjmelfgopammaaDoorRows
import GoSem.ClaimSeven
namespace Go.Proofs.YtkjmelfgopammaaDoor
namespace Rows

/-- THE TIED CARD OF 'depotlaw14.AnswerRuns'. -/
def answerRunsCard : Claim7 := { stood := { row := answerRunsRow, standIns := [], harness := (true, "8b9a3977589540010c6e93362e45cf629110129c405e45f6fa7926c84e5725b1"), looks := false }, kinds := [], alts := [], laidByText := true, laidKinds := [.data, .data, .data], laidTests := true, laidLooks := .later }
def AnswerRunsCardSaid : Prop := Claim7.holds Tryd.pinned (.plain (OpenSpec.ofChange answerRunsSpec)) answerRunsCard

/-- THE TIED CARD OF 'depotlaw14.AnswerValues'. -/
def answerValuesCard : Claim7 := { stood := { row := answerValuesRow, standIns := [], harness := (true, "8b9a3977589540010c6e93362e45cf629110129c405e45f6fa7926c84e5725b1"), looks := false }, kinds := [], alts := [], laidByText := true, laidKinds := [.data, .data, .data], laidTests := true, laidLooks := .later }
def AnswerValuesCardSaid : Prop := Claim7.holds Tryd.pinned (.plain (OpenSpec.ofChange answerValuesSpec)) answerValuesCard

/-- THE TIED CARD OF 'depotlaw14.AnswerLines'. -/
def answerLinesCard : Claim7 := { stood := { row := answerLinesRow, standIns := [], harness := (true, "8b9a3977589540010c6e93362e45cf629110129c405e45f6fa7926c84e5725b1"), looks := false }, kinds := [], alts := [], laidByText := true, laidKinds := [.data, .data, .data], laidTests := true, laidLooks := .later }
def AnswerLinesCardSaid : Prop := Claim7.holds Tryd.pinned (.plain (OpenSpec.ofChange answerLinesSpec)) answerLinesCard

/-- THE TIED CARD OF 'depotlaw14.AnswerTells'. -/
def answerTellsCard : Claim7 := { stood := { row := answerTellsRow, standIns := [], harness := (true, "8b9a3977589540010c6e93362e45cf629110129c405e45f6fa7926c84e5725b1"), looks := false }, kinds := [], alts := [], laidByText := true, laidKinds := [.data, .data, .data], laidTests := true, laidLooks := .later }
def AnswerTellsCardSaid : Prop := Claim7.holds Tryd.pinned (.plain (OpenSpec.ofChange answerTellsSpec)) answerTellsCard

/-- THE TIED CARD OF 'depotlaw12.WordsNumbers'. -/
def wordsNumbersCard : Claim7 := { stood := { row := wordsNumbersRow, standIns := [], harness := (true, "8b9a3977589540010c6e93362e45cf629110129c405e45f6fa7926c84e5725b1"), looks := false }, kinds := [], alts := [], laidByText := true, laidKinds := [.data, .data, .data], laidTests := true, laidLooks := .later }
def WordsNumbersCardSaid : Prop := Claim7.holds Tryd.pinned (.plain (OpenSpec.ofChange wordsNumbersSpec)) wordsNumbersCard

/-- THE TIED CARD OF 'depotlaw13.ParseStores'. -/
def parseStoresCard : Claim7 := { stood := { row := parseStoresRow, standIns := [], harness := (true, "8b9a3977589540010c6e93362e45cf629110129c405e45f6fa7926c84e5725b1"), looks := false }, kinds := [], alts := [], laidByText := true, laidKinds := [.data, .data, .data], laidTests := true, laidLooks := .later }
def ParseStoresCardSaid : Prop := Claim7.holds Tryd.pinned (.plain (OpenSpec.ofChange parseStoresSpec)) parseStoresCard

/-- THE TIED CARD OF 'depotlaw13.ParseLarge'. -/
def parseLargeCard : Claim7 := { stood := { row := parseLargeRow, standIns := [], harness := (true, "8b9a3977589540010c6e93362e45cf629110129c405e45f6fa7926c84e5725b1"), looks := false }, kinds := [], alts := [], laidByText := true, laidKinds := [.data, .data, .data], laidTests := true, laidLooks := .later }
def ParseLargeCardSaid : Prop := Claim7.holds Tryd.pinned (.plain (OpenSpec.ofChange parseLargeSpec)) parseLargeCard

/-- THE SECOND FORM's CARD OF 'depotlaw14.AnswerRuns'. -/
def answerRunsUptoCard : Claim7 := { stood := { row := answerRunsUptoRow, standIns := [], harness := (true, "8b9a3977589540010c6e93362e45cf629110129c405e45f6fa7926c84e5725b1"), looks := false }, kinds := [], alts := [], laidByText := true, laidKinds := [.data, .data, .data], laidTests := true, laidLooks := .later }
def AnswerRunsUptoCardSaid : Prop := Claim7.holds Tryd.pinned (.plain (OpenSpec.upto answerRunsSpec)) answerRunsUptoCard

/-- THE SECOND FORM's CARD OF 'depotlaw14.AnswerValues'. -/
def answerValuesUptoCard : Claim7 := { stood := { row := answerValuesUptoRow, standIns := [], harness := (true, "8b9a3977589540010c6e93362e45cf629110129c405e45f6fa7926c84e5725b1"), looks := false }, kinds := [], alts := [], laidByText := true, laidKinds := [.data, .data, .data], laidTests := true, laidLooks := .later }
def AnswerValuesUptoCardSaid : Prop := Claim7.holds Tryd.pinned (.plain (OpenSpec.upto answerValuesSpec)) answerValuesUptoCard

/-- THE SECOND FORM's CARD OF 'depotlaw14.AnswerLines'. -/
def answerLinesUptoCard : Claim7 := { stood := { row := answerLinesUptoRow, standIns := [], harness := (true, "8b9a3977589540010c6e93362e45cf629110129c405e45f6fa7926c84e5725b1"), looks := false }, kinds := [], alts := [], laidByText := true, laidKinds := [.data, .data, .data], laidTests := true, laidLooks := .later }
def AnswerLinesUptoCardSaid : Prop := Claim7.holds Tryd.pinned (.plain (OpenSpec.upto answerLinesSpec)) answerLinesUptoCard

/-- THE SECOND FORM's CARD OF 'depotlaw14.AnswerTells'. -/
def answerTellsUptoCard : Claim7 := { stood := { row := answerTellsUptoRow, standIns := [], harness := (true, "8b9a3977589540010c6e93362e45cf629110129c405e45f6fa7926c84e5725b1"), looks := false }, kinds := [], alts := [], laidByText := true, laidKinds := [.data, .data, .data], laidTests := true, laidLooks := .later }
def AnswerTellsUptoCardSaid : Prop := Claim7.holds Tryd.pinned (.plain (OpenSpec.upto answerTellsSpec)) answerTellsUptoCard

/-- THE SECOND FORM's CARD OF 'depotlaw12.WordsNumbers'. -/
def wordsNumbersUptoCard : Claim7 := { stood := { row := wordsNumbersUptoRow, standIns := [], harness := (true, "8b9a3977589540010c6e93362e45cf629110129c405e45f6fa7926c84e5725b1"), looks := false }, kinds := [], alts := [], laidByText := true, laidKinds := [.data, .data, .data], laidTests := true, laidLooks := .later }
def WordsNumbersUptoCardSaid : Prop := Claim7.holds Tryd.pinned (.plain (OpenSpec.upto wordsNumbersSpec)) wordsNumbersUptoCard

/-- THE SECOND FORM's CARD OF 'depotlaw13.ParseStores'. -/
def parseStoresUptoCard : Claim7 := { stood := { row := parseStoresUptoRow, standIns := [], harness := (true, "8b9a3977589540010c6e93362e45cf629110129c405e45f6fa7926c84e5725b1"), looks := false }, kinds := [], alts := [], laidByText := true, laidKinds := [.data, .data, .data], laidTests := true, laidLooks := .later }
def ParseStoresUptoCardSaid : Prop := Claim7.holds Tryd.pinned (.plain (OpenSpec.upto parseStoresSpec)) parseStoresUptoCard

/-- THE SECOND FORM's CARD OF 'depotlaw13.ParseLarge'. -/
def parseLargeUptoCard : Claim7 := { stood := { row := parseLargeUptoRow, standIns := [], harness := (true, "8b9a3977589540010c6e93362e45cf629110129c405e45f6fa7926c84e5725b1"), looks := false }, kinds := [], alts := [], laidByText := true, laidKinds := [.data, .data, .data], laidTests := true, laidLooks := .later }
def ParseLargeUptoCardSaid : Prop := Claim7.holds Tryd.pinned (.plain (OpenSpec.upto parseLargeSpec)) parseLargeUptoCard
end Rows
end Go.Proofs.YtkjmelfgopammaaDoor
