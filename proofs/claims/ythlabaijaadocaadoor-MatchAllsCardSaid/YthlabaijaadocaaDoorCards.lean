/-
  DERIVED. GIVEN WITH THE SEED: THE CARDS: each row of YthlabaijaadocaaDoorRows.lean that lists a variable, with what it lists TIED to the program's text (the seventh form; the later family's looks); each row that meets fmt, with fmt's text TOLD by the authors' own Lean function (tested against real Go, not proved from fmt's source: count such statements apart). THE CARD IS WHAT COUNTS. Prove the row's statement (the work); the ties are given (YthlabaijaadocaaDoorTie.lean); close each card by the builder's one call (the guide's Derived/Test/ToyasCard.lean, 'card_holds'). Laid BY PROGRAM, IN A SANDBOX (cutbox-door.mjs). By AI agents, Wed Nov 11 2026. No macro, syntax, notation, axiom, sorry.
-/
import Derived.Test.YthlabaijaadocaaDoorRows
import GoSem.ClaimSeven
namespace Go.Proofs.YthlabaijaadocaaDoor
namespace Rows

/-- THE TIED CARD OF 'manometerlaw07.MatchChecks'. -/
def matchChecksCard : Claim7 := { stood := { row := matchChecksRow, standIns := [], harness := (true, "e27446e91219690f69235f5e0ea69b2f623f6698555acaeedfb1243e898840fc"), looks := true }, kinds := [], alts := [], laidByText := true, laidKinds := [.data, .pinned], laidTests := true, laidLooks := .later }
def MatchChecksCardSaid : Prop := Claim7.holds Tryd.pinned (.plain (OpenSpec.ofChange matchChecksSpec)) matchChecksCard

/-- THE TIED CARD OF 'manometerlaw07.MatchTexts'. -/
def matchTextsCard : Claim7 := { stood := { row := matchTextsRow, standIns := [], harness := (true, "e27446e91219690f69235f5e0ea69b2f623f6698555acaeedfb1243e898840fc"), looks := true }, kinds := [], alts := [], laidByText := true, laidKinds := [.data, .pinned], laidTests := true, laidLooks := .later }
def MatchTextsCardSaid : Prop := Claim7.holds Tryd.pinned (.plain (OpenSpec.ofChange matchTextsSpec)) matchTextsCard

/-- THE TIED CARD OF 'manometerlaw07.MatchTold'. -/
def matchToldCard : Claim7 := { stood := { row := matchToldRow, standIns := [], harness := (true, "e27446e91219690f69235f5e0ea69b2f623f6698555acaeedfb1243e898840fc"), looks := true }, kinds := [], alts := [], laidByText := true, laidKinds := [.data, .pinned], laidTests := true, laidLooks := .later }
def MatchToldCardSaid : Prop := Claim7.holds Tryd.pinned (.plain (OpenSpec.ofChange matchToldSpec)) matchToldCard

/-- THE TIED CARD OF 'manometerlaw07.MatchNarrow'. -/
def matchNarrowCard : Claim7 := { stood := { row := matchNarrowRow, standIns := [], harness := (true, "e27446e91219690f69235f5e0ea69b2f623f6698555acaeedfb1243e898840fc"), looks := true }, kinds := [], alts := [], laidByText := true, laidKinds := [.data, .pinned], laidTests := true, laidLooks := .later }
def MatchNarrowCardSaid : Prop := Claim7.holds Tryd.pinned (.plain (OpenSpec.ofChange matchNarrowSpec)) matchNarrowCard

/-- THE TIED CARD OF 'manometerlaw07.MatchOnes'. -/
def matchOnesCard : Claim7 := { stood := { row := matchOnesRow, standIns := [], harness := (true, "e27446e91219690f69235f5e0ea69b2f623f6698555acaeedfb1243e898840fc"), looks := true }, kinds := [], alts := [], laidByText := true, laidKinds := [.data, .pinned], laidTests := true, laidLooks := .later }
def MatchOnesCardSaid : Prop := Claim7.holds Tryd.pinned (.plain (OpenSpec.ofChange matchOnesSpec)) matchOnesCard

/-- THE TIED CARD OF 'manometerlaw07.MatchTurned'. -/
def matchTurnedCard : Claim7 := { stood := { row := matchTurnedRow, standIns := [], harness := (true, "e27446e91219690f69235f5e0ea69b2f623f6698555acaeedfb1243e898840fc"), looks := true }, kinds := [], alts := [], laidByText := true, laidKinds := [.data, .pinned], laidTests := true, laidLooks := .later }
def MatchTurnedCardSaid : Prop := Claim7.holds Tryd.pinned (.plain (OpenSpec.ofChange matchTurnedSpec)) matchTurnedCard

/-- THE TIED CARD OF 'manometerlaw07.MatchPlain'. -/
def matchPlainCard : Claim7 := { stood := { row := matchPlainRow, standIns := [], harness := (true, "e27446e91219690f69235f5e0ea69b2f623f6698555acaeedfb1243e898840fc"), looks := true }, kinds := [], alts := [], laidByText := true, laidKinds := [.data, .pinned], laidTests := true, laidLooks := .later }
def MatchPlainCardSaid : Prop := Claim7.holds Tryd.pinned (.plain (OpenSpec.ofChange matchPlainSpec)) matchPlainCard

/-- THE TIED CARD OF 'manometerlaw07.MatchNone'. -/
def matchNoneCard : Claim7 := { stood := { row := matchNoneRow, standIns := [], harness := (true, "e27446e91219690f69235f5e0ea69b2f623f6698555acaeedfb1243e898840fc"), looks := true }, kinds := [], alts := [], laidByText := true, laidKinds := [.data, .pinned], laidTests := true, laidLooks := .later }
def MatchNoneCardSaid : Prop := Claim7.holds Tryd.pinned (.plain (OpenSpec.ofChange matchNoneSpec)) matchNoneCard

/-- THE TIED CARD OF 'manometerlaw07.MatchAlls'. -/
def matchAllsCard : Claim7 := { stood := { row := matchAllsRow, standIns := [], harness := (true, "e27446e91219690f69235f5e0ea69b2f623f6698555acaeedfb1243e898840fc"), looks := true }, kinds := [], alts := [], laidByText := true, laidKinds := [.data, .pinned], laidTests := true, laidLooks := .later }
def MatchAllsCardSaid : Prop := Claim7.holds Tryd.pinned (.plain (OpenSpec.ofChange matchAllsSpec)) matchAllsCard

/-- THE SECOND FORM's CARD OF 'manometerlaw07.MatchChecks'. -/
def matchChecksUptoCard : Claim7 := { stood := { row := matchChecksUptoRow, standIns := [], harness := (true, "e27446e91219690f69235f5e0ea69b2f623f6698555acaeedfb1243e898840fc"), looks := true }, kinds := [], alts := [], laidByText := true, laidKinds := [.data, .pinned], laidTests := true, laidLooks := .later }
def MatchChecksUptoCardSaid : Prop := Claim7.holds Tryd.pinned (.plain (OpenSpec.upto matchChecksSpec)) matchChecksUptoCard

/-- THE SECOND FORM's CARD OF 'manometerlaw07.MatchTexts'. -/
def matchTextsUptoCard : Claim7 := { stood := { row := matchTextsUptoRow, standIns := [], harness := (true, "e27446e91219690f69235f5e0ea69b2f623f6698555acaeedfb1243e898840fc"), looks := true }, kinds := [], alts := [], laidByText := true, laidKinds := [.data, .pinned], laidTests := true, laidLooks := .later }
def MatchTextsUptoCardSaid : Prop := Claim7.holds Tryd.pinned (.plain (OpenSpec.upto matchTextsSpec)) matchTextsUptoCard

/-- THE SECOND FORM's CARD OF 'manometerlaw07.MatchTold'. -/
def matchToldUptoCard : Claim7 := { stood := { row := matchToldUptoRow, standIns := [], harness := (true, "e27446e91219690f69235f5e0ea69b2f623f6698555acaeedfb1243e898840fc"), looks := true }, kinds := [], alts := [], laidByText := true, laidKinds := [.data, .pinned], laidTests := true, laidLooks := .later }
def MatchToldUptoCardSaid : Prop := Claim7.holds Tryd.pinned (.plain (OpenSpec.upto matchToldSpec)) matchToldUptoCard

/-- THE SECOND FORM's CARD OF 'manometerlaw07.MatchNarrow'. -/
def matchNarrowUptoCard : Claim7 := { stood := { row := matchNarrowUptoRow, standIns := [], harness := (true, "e27446e91219690f69235f5e0ea69b2f623f6698555acaeedfb1243e898840fc"), looks := true }, kinds := [], alts := [], laidByText := true, laidKinds := [.data, .pinned], laidTests := true, laidLooks := .later }
def MatchNarrowUptoCardSaid : Prop := Claim7.holds Tryd.pinned (.plain (OpenSpec.upto matchNarrowSpec)) matchNarrowUptoCard

/-- THE SECOND FORM's CARD OF 'manometerlaw07.MatchOnes'. -/
def matchOnesUptoCard : Claim7 := { stood := { row := matchOnesUptoRow, standIns := [], harness := (true, "e27446e91219690f69235f5e0ea69b2f623f6698555acaeedfb1243e898840fc"), looks := true }, kinds := [], alts := [], laidByText := true, laidKinds := [.data, .pinned], laidTests := true, laidLooks := .later }
def MatchOnesUptoCardSaid : Prop := Claim7.holds Tryd.pinned (.plain (OpenSpec.upto matchOnesSpec)) matchOnesUptoCard

/-- THE SECOND FORM's CARD OF 'manometerlaw07.MatchTurned'. -/
def matchTurnedUptoCard : Claim7 := { stood := { row := matchTurnedUptoRow, standIns := [], harness := (true, "e27446e91219690f69235f5e0ea69b2f623f6698555acaeedfb1243e898840fc"), looks := true }, kinds := [], alts := [], laidByText := true, laidKinds := [.data, .pinned], laidTests := true, laidLooks := .later }
def MatchTurnedUptoCardSaid : Prop := Claim7.holds Tryd.pinned (.plain (OpenSpec.upto matchTurnedSpec)) matchTurnedUptoCard

/-- THE SECOND FORM's CARD OF 'manometerlaw07.MatchPlain'. -/
def matchPlainUptoCard : Claim7 := { stood := { row := matchPlainUptoRow, standIns := [], harness := (true, "e27446e91219690f69235f5e0ea69b2f623f6698555acaeedfb1243e898840fc"), looks := true }, kinds := [], alts := [], laidByText := true, laidKinds := [.data, .pinned], laidTests := true, laidLooks := .later }
def MatchPlainUptoCardSaid : Prop := Claim7.holds Tryd.pinned (.plain (OpenSpec.upto matchPlainSpec)) matchPlainUptoCard

/-- THE SECOND FORM's CARD OF 'manometerlaw07.MatchNone'. -/
def matchNoneUptoCard : Claim7 := { stood := { row := matchNoneUptoRow, standIns := [], harness := (true, "e27446e91219690f69235f5e0ea69b2f623f6698555acaeedfb1243e898840fc"), looks := true }, kinds := [], alts := [], laidByText := true, laidKinds := [.data, .pinned], laidTests := true, laidLooks := .later }
def MatchNoneUptoCardSaid : Prop := Claim7.holds Tryd.pinned (.plain (OpenSpec.upto matchNoneSpec)) matchNoneUptoCard

/-- THE SECOND FORM's CARD OF 'manometerlaw07.MatchAlls'. -/
def matchAllsUptoCard : Claim7 := { stood := { row := matchAllsUptoRow, standIns := [], harness := (true, "e27446e91219690f69235f5e0ea69b2f623f6698555acaeedfb1243e898840fc"), looks := true }, kinds := [], alts := [], laidByText := true, laidKinds := [.data, .pinned], laidTests := true, laidLooks := .later }
def MatchAllsUptoCardSaid : Prop := Claim7.holds Tryd.pinned (.plain (OpenSpec.upto matchAllsSpec)) matchAllsUptoCard
end Rows
end Go.Proofs.YthlabaijaadocaaDoor
