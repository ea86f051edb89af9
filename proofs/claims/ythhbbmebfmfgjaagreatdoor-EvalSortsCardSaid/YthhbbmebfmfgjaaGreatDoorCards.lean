/-
  DERIVED. GIVEN WITH THE SEED: THE CARDS: each row of YthhbbmebfmfgjaaGreatDoorRows.lean that lists a variable, with what it lists TIED to the program's text (the seventh form; the later family's looks); each row that meets fmt, with fmt's text TOLD by the authors' own Lean function (tested against real Go, not proved from fmt's source: count such statements apart). THE CARD IS WHAT COUNTS. Prove the row's statement (the work); the ties are given (YthhbbmebfmfgjaaGreatDoorTie.lean); close each card by the builder's one call (the guide's Derived/Test/ToyasCard.lean, 'card_holds'). Laid BY PROGRAM, IN A SANDBOX (cutbox-door.mjs). By AI agents, Wed Nov 11 2026. No macro, syntax, notation, axiom, sorry.
-/
import Derived.Test.YthhbbmebfmfgjaaGreatDoorRows
import GoSem.ClaimSeven
namespace Go.Proofs.YthhbbmebfmfgjaaGreatDoor
namespace Rows

/-- THE TIED CARD OF 'manometerlaw27.EvalSorts'. -/
def evalSortsCard : Claim7 := { stood := { row := evalSortsRow, standIns := [], harness := (true, "8bec324dc6fbefb86957240a80b2388ffe3783664ce7b8f76ae3601f2359c15d"), looks := true }, kinds := [], alts := [], laidByText := true, laidKinds := [.data, .pinned], laidTests := true, laidLooks := .later }
def EvalSortsCardSaid : Prop := Claim7.holds Tryz.pinned (.plain (OpenSpec.ofChange evalSortsSpec)) evalSortsCard

/-- THE TIED CARD OF 'manometerlaw27.EvalTurned'. -/
def evalTurnedCard : Claim7 := { stood := { row := evalTurnedRow, standIns := [], harness := (true, "8bec324dc6fbefb86957240a80b2388ffe3783664ce7b8f76ae3601f2359c15d"), looks := true }, kinds := [], alts := [], laidByText := true, laidKinds := [.data, .pinned], laidTests := true, laidLooks := .later }
def EvalTurnedCardSaid : Prop := Claim7.holds Tryz.pinned (.plain (OpenSpec.ofChange evalTurnedSpec)) evalTurnedCard

/-- THE TIED CARD OF 'manometerlaw27.EvalFolds'. -/
def evalFoldsCard : Claim7 := { stood := { row := evalFoldsRow, standIns := [], harness := (true, "8bec324dc6fbefb86957240a80b2388ffe3783664ce7b8f76ae3601f2359c15d"), looks := true }, kinds := [], alts := [], laidByText := true, laidKinds := [.data, .pinned], laidTests := true, laidLooks := .later }
def EvalFoldsCardSaid : Prop := Claim7.holds Tryz.pinned (.plain (OpenSpec.ofChange evalFoldsSpec)) evalFoldsCard

/-- THE TIED CARD OF 'manometerlaw27.EvalGrows'. -/
def evalGrowsCard : Claim7 := { stood := { row := evalGrowsRow, standIns := [], harness := (true, "8bec324dc6fbefb86957240a80b2388ffe3783664ce7b8f76ae3601f2359c15d"), looks := true }, kinds := [], alts := [], laidByText := true, laidKinds := [.data, .pinned], laidTests := true, laidLooks := .later }
def EvalGrowsCardSaid : Prop := Claim7.holds Tryz.pinned (.plain (OpenSpec.ofChange evalGrowsSpec)) evalGrowsCard

/-- THE TIED CARD OF 'manometerlaw27.EvalNever'. -/
def evalNeverCard : Claim7 := { stood := { row := evalNeverRow, standIns := [], harness := (true, "8bec324dc6fbefb86957240a80b2388ffe3783664ce7b8f76ae3601f2359c15d"), looks := true }, kinds := [], alts := [], laidByText := true, laidKinds := [.data, .pinned], laidTests := true, laidLooks := .later }
def EvalNeverCardSaid : Prop := Claim7.holds Tryz.pinned (.plain (OpenSpec.ofChange evalNeverSpec)) evalNeverCard

/-- THE TIED CARD OF 'manometerlaw27.EvalSets'. -/
def evalSetsCard : Claim7 := { stood := { row := evalSetsRow, standIns := [], harness := (true, "8bec324dc6fbefb86957240a80b2388ffe3783664ce7b8f76ae3601f2359c15d"), looks := true }, kinds := [], alts := [], laidByText := true, laidKinds := [.data, .pinned], laidTests := true, laidLooks := .later }
def EvalSetsCardSaid : Prop := Claim7.holds Tryz.pinned (.plain (OpenSpec.ofChange evalSetsSpec)) evalSetsCard

/-- THE TIED CARD OF 'manometerlaw27.EvalTimes'. -/
def evalTimesCard : Claim7 := { stood := { row := evalTimesRow, standIns := [], harness := (true, "8bec324dc6fbefb86957240a80b2388ffe3783664ce7b8f76ae3601f2359c15d"), looks := true }, kinds := [], alts := [], laidByText := true, laidKinds := [.data, .pinned], laidTests := true, laidLooks := .later }
def EvalTimesCardSaid : Prop := Claim7.holds Tryz.pinned (.plain (OpenSpec.ofChange evalTimesSpec)) evalTimesCard

/-- THE TIED CARD OF 'manometerlaw27.EvalOthers'. -/
def evalOthersCard : Claim7 := { stood := { row := evalOthersRow, standIns := [], harness := (true, "8bec324dc6fbefb86957240a80b2388ffe3783664ce7b8f76ae3601f2359c15d"), looks := true }, kinds := [], alts := [], laidByText := true, laidKinds := [.data, .pinned], laidTests := true, laidLooks := .later }
def EvalOthersCardSaid : Prop := Claim7.holds Tryz.pinned (.plain (OpenSpec.ofChange evalOthersSpec)) evalOthersCard

/-- THE TIED CARD OF 'manometerlaw27.EvalMarks'. -/
def evalMarksCard : Claim7 := { stood := { row := evalMarksRow, standIns := [], harness := (true, "8bec324dc6fbefb86957240a80b2388ffe3783664ce7b8f76ae3601f2359c15d"), looks := true }, kinds := [], alts := [], laidByText := true, laidKinds := [.data, .pinned], laidTests := true, laidLooks := .later }
def EvalMarksCardSaid : Prop := Claim7.holds Tryz.pinned (.plain (OpenSpec.ofChange evalMarksSpec)) evalMarksCard

/-- THE TIED CARD OF 'manometerlaw27.EvalEach'. -/
def evalEachCard : Claim7 := { stood := { row := evalEachRow, standIns := [], harness := (true, "8bec324dc6fbefb86957240a80b2388ffe3783664ce7b8f76ae3601f2359c15d"), looks := true }, kinds := [], alts := [], laidByText := true, laidKinds := [.data, .pinned], laidTests := true, laidLooks := .later }
def EvalEachCardSaid : Prop := Claim7.holds Tryz.pinned (.plain (OpenSpec.ofChange evalEachSpec)) evalEachCard

/-- THE SECOND FORM's CARD OF 'manometerlaw27.EvalSorts'. -/
def evalSortsUptoCard : Claim7 := { stood := { row := evalSortsUptoRow, standIns := [], harness := (true, "8bec324dc6fbefb86957240a80b2388ffe3783664ce7b8f76ae3601f2359c15d"), looks := true }, kinds := [], alts := [], laidByText := true, laidKinds := [.data, .pinned], laidTests := true, laidLooks := .later }
def EvalSortsUptoCardSaid : Prop := Claim7.holds Tryz.pinned (.plain (OpenSpec.upto evalSortsSpec)) evalSortsUptoCard

/-- THE SECOND FORM's CARD OF 'manometerlaw27.EvalTurned'. -/
def evalTurnedUptoCard : Claim7 := { stood := { row := evalTurnedUptoRow, standIns := [], harness := (true, "8bec324dc6fbefb86957240a80b2388ffe3783664ce7b8f76ae3601f2359c15d"), looks := true }, kinds := [], alts := [], laidByText := true, laidKinds := [.data, .pinned], laidTests := true, laidLooks := .later }
def EvalTurnedUptoCardSaid : Prop := Claim7.holds Tryz.pinned (.plain (OpenSpec.upto evalTurnedSpec)) evalTurnedUptoCard

/-- THE SECOND FORM's CARD OF 'manometerlaw27.EvalFolds'. -/
def evalFoldsUptoCard : Claim7 := { stood := { row := evalFoldsUptoRow, standIns := [], harness := (true, "8bec324dc6fbefb86957240a80b2388ffe3783664ce7b8f76ae3601f2359c15d"), looks := true }, kinds := [], alts := [], laidByText := true, laidKinds := [.data, .pinned], laidTests := true, laidLooks := .later }
def EvalFoldsUptoCardSaid : Prop := Claim7.holds Tryz.pinned (.plain (OpenSpec.upto evalFoldsSpec)) evalFoldsUptoCard

/-- THE SECOND FORM's CARD OF 'manometerlaw27.EvalGrows'. -/
def evalGrowsUptoCard : Claim7 := { stood := { row := evalGrowsUptoRow, standIns := [], harness := (true, "8bec324dc6fbefb86957240a80b2388ffe3783664ce7b8f76ae3601f2359c15d"), looks := true }, kinds := [], alts := [], laidByText := true, laidKinds := [.data, .pinned], laidTests := true, laidLooks := .later }
def EvalGrowsUptoCardSaid : Prop := Claim7.holds Tryz.pinned (.plain (OpenSpec.upto evalGrowsSpec)) evalGrowsUptoCard

/-- THE SECOND FORM's CARD OF 'manometerlaw27.EvalNever'. -/
def evalNeverUptoCard : Claim7 := { stood := { row := evalNeverUptoRow, standIns := [], harness := (true, "8bec324dc6fbefb86957240a80b2388ffe3783664ce7b8f76ae3601f2359c15d"), looks := true }, kinds := [], alts := [], laidByText := true, laidKinds := [.data, .pinned], laidTests := true, laidLooks := .later }
def EvalNeverUptoCardSaid : Prop := Claim7.holds Tryz.pinned (.plain (OpenSpec.upto evalNeverSpec)) evalNeverUptoCard

/-- THE SECOND FORM's CARD OF 'manometerlaw27.EvalSets'. -/
def evalSetsUptoCard : Claim7 := { stood := { row := evalSetsUptoRow, standIns := [], harness := (true, "8bec324dc6fbefb86957240a80b2388ffe3783664ce7b8f76ae3601f2359c15d"), looks := true }, kinds := [], alts := [], laidByText := true, laidKinds := [.data, .pinned], laidTests := true, laidLooks := .later }
def EvalSetsUptoCardSaid : Prop := Claim7.holds Tryz.pinned (.plain (OpenSpec.upto evalSetsSpec)) evalSetsUptoCard

/-- THE SECOND FORM's CARD OF 'manometerlaw27.EvalTimes'. -/
def evalTimesUptoCard : Claim7 := { stood := { row := evalTimesUptoRow, standIns := [], harness := (true, "8bec324dc6fbefb86957240a80b2388ffe3783664ce7b8f76ae3601f2359c15d"), looks := true }, kinds := [], alts := [], laidByText := true, laidKinds := [.data, .pinned], laidTests := true, laidLooks := .later }
def EvalTimesUptoCardSaid : Prop := Claim7.holds Tryz.pinned (.plain (OpenSpec.upto evalTimesSpec)) evalTimesUptoCard

/-- THE SECOND FORM's CARD OF 'manometerlaw27.EvalOthers'. -/
def evalOthersUptoCard : Claim7 := { stood := { row := evalOthersUptoRow, standIns := [], harness := (true, "8bec324dc6fbefb86957240a80b2388ffe3783664ce7b8f76ae3601f2359c15d"), looks := true }, kinds := [], alts := [], laidByText := true, laidKinds := [.data, .pinned], laidTests := true, laidLooks := .later }
def EvalOthersUptoCardSaid : Prop := Claim7.holds Tryz.pinned (.plain (OpenSpec.upto evalOthersSpec)) evalOthersUptoCard

/-- THE SECOND FORM's CARD OF 'manometerlaw27.EvalMarks'. -/
def evalMarksUptoCard : Claim7 := { stood := { row := evalMarksUptoRow, standIns := [], harness := (true, "8bec324dc6fbefb86957240a80b2388ffe3783664ce7b8f76ae3601f2359c15d"), looks := true }, kinds := [], alts := [], laidByText := true, laidKinds := [.data, .pinned], laidTests := true, laidLooks := .later }
def EvalMarksUptoCardSaid : Prop := Claim7.holds Tryz.pinned (.plain (OpenSpec.upto evalMarksSpec)) evalMarksUptoCard

/-- THE SECOND FORM's CARD OF 'manometerlaw27.EvalEach'. -/
def evalEachUptoCard : Claim7 := { stood := { row := evalEachUptoRow, standIns := [], harness := (true, "8bec324dc6fbefb86957240a80b2388ffe3783664ce7b8f76ae3601f2359c15d"), looks := true }, kinds := [], alts := [], laidByText := true, laidKinds := [.data, .pinned], laidTests := true, laidLooks := .later }
def EvalEachUptoCardSaid : Prop := Claim7.holds Tryz.pinned (.plain (OpenSpec.upto evalEachSpec)) evalEachUptoCard
end Rows
end Go.Proofs.YthhbbmebfmfgjaaGreatDoor
