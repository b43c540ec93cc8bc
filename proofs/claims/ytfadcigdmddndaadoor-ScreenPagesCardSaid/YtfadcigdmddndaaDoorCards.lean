/-
  DERIVED. GIVEN WITH THE SEED: THE CARDS: each row of YtfadcigdmddndaaDoorRows.lean that lists a variable, with what it lists TIED to the program's text (the seventh form; the later family's looks); each row that meets fmt, with fmt's text TOLD by the authors' own Lean function (tested against real Go, not proved from fmt's source: count such statements apart). THE CARD IS WHAT COUNTS. Prove the row's statement (the work); the ties are given (YtfadcigdmddndaaDoorTie.lean); close each card by the builder's one call (the guide's Derived/Test/ToyasCard.lean, 'card_holds'). Laid BY PROGRAM, IN A SANDBOX (cutbox-door.mjs). By AI agents, Wed Nov 11 2026. No macro, syntax, notation, axiom, sorry.
-/
import Derived.Test.YtfadcigdmddndaaDoorRows
import GoSem.ClaimSeven
namespace Go.Proofs.YtfadcigdmddndaaDoor
namespace Rows

/-- THE TIED CARD OF 'oriellaw17.ScreenKnown'. -/
def screenKnownCard : Claim7 := { stood := { row := screenKnownRow, standIns := [], harness := (true, "705957de36b36c3598fda81f9d56006a2f636c4812c72a1772f2aa96b3296aa4"), looks := false }, kinds := [], alts := [], laidByText := true, laidKinds := [.data, .data], laidTests := true, laidLooks := .later }
def ScreenKnownCardSaid : Prop := Claim7.holds Tryd.pinned (.plain (OpenSpec.ofChange screenKnownSpec)) screenKnownCard

/-- THE TIED CARD OF 'oriellaw17.ScreenPrints'. -/
def screenPrintsCard : Claim7 := { stood := { row := screenPrintsRow, standIns := [], harness := (true, "705957de36b36c3598fda81f9d56006a2f636c4812c72a1772f2aa96b3296aa4"), looks := false }, kinds := [], alts := [], laidByText := true, laidKinds := [.data, .data], laidTests := true, laidLooks := .later }
def ScreenPrintsCardSaid : Prop := Claim7.holds Tryd.pinned (.plain (OpenSpec.ofChange screenPrintsSpec)) screenPrintsCard

/-- THE TIED CARD OF 'oriellaw17.ScreenClears'. -/
def screenClearsCard : Claim7 := { stood := { row := screenClearsRow, standIns := [], harness := (true, "705957de36b36c3598fda81f9d56006a2f636c4812c72a1772f2aa96b3296aa4"), looks := false }, kinds := [], alts := [], laidByText := true, laidKinds := [.data, .data], laidTests := true, laidLooks := .later }
def ScreenClearsCardSaid : Prop := Claim7.holds Tryd.pinned (.plain (OpenSpec.ofChange screenClearsSpec)) screenClearsCard

/-- THE TIED CARD OF 'oriellaw17.ScreenWhole'. -/
def screenWholeCard : Claim7 := { stood := { row := screenWholeRow, standIns := [], harness := (true, "705957de36b36c3598fda81f9d56006a2f636c4812c72a1772f2aa96b3296aa4"), looks := false }, kinds := [], alts := [], laidByText := true, laidKinds := [.data, .data], laidTests := true, laidLooks := .later }
def ScreenWholeCardSaid : Prop := Claim7.holds Tryd.pinned (.plain (OpenSpec.ofChange screenWholeSpec)) screenWholeCard

/-- THE TIED CARD OF 'oriellaw17.ScreenPages'. -/
def screenPagesCard : Claim7 := { stood := { row := screenPagesRow, standIns := [], harness := (true, "705957de36b36c3598fda81f9d56006a2f636c4812c72a1772f2aa96b3296aa4"), looks := false }, kinds := [], alts := [], laidByText := true, laidKinds := [.data, .data], laidTests := true, laidLooks := .later }
def ScreenPagesCardSaid : Prop := Claim7.holds Tryd.pinned (.plain (OpenSpec.ofChange screenPagesSpec)) screenPagesCard

/-- THE TIED CARD OF 'oriellaw17.ScreenMoves'. -/
def screenMovesCard : Claim7 := { stood := { row := screenMovesRow, standIns := [], harness := (true, "705957de36b36c3598fda81f9d56006a2f636c4812c72a1772f2aa96b3296aa4"), looks := false }, kinds := [], alts := [], laidByText := true, laidKinds := [.data, .data], laidTests := true, laidLooks := .later }
def ScreenMovesCardSaid : Prop := Claim7.holds Tryd.pinned (.plain (OpenSpec.ofChange screenMovesSpec)) screenMovesCard

/-- THE SECOND FORM's CARD OF 'oriellaw17.ScreenKnown'. -/
def screenKnownUptoCard : Claim7 := { stood := { row := screenKnownUptoRow, standIns := [], harness := (true, "705957de36b36c3598fda81f9d56006a2f636c4812c72a1772f2aa96b3296aa4"), looks := false }, kinds := [], alts := [], laidByText := true, laidKinds := [.data, .data], laidTests := true, laidLooks := .later }
def ScreenKnownUptoCardSaid : Prop := Claim7.holds Tryd.pinned (.plain (OpenSpec.upto screenKnownSpec)) screenKnownUptoCard

/-- THE SECOND FORM's CARD OF 'oriellaw17.ScreenPrints'. -/
def screenPrintsUptoCard : Claim7 := { stood := { row := screenPrintsUptoRow, standIns := [], harness := (true, "705957de36b36c3598fda81f9d56006a2f636c4812c72a1772f2aa96b3296aa4"), looks := false }, kinds := [], alts := [], laidByText := true, laidKinds := [.data, .data], laidTests := true, laidLooks := .later }
def ScreenPrintsUptoCardSaid : Prop := Claim7.holds Tryd.pinned (.plain (OpenSpec.upto screenPrintsSpec)) screenPrintsUptoCard

/-- THE SECOND FORM's CARD OF 'oriellaw17.ScreenClears'. -/
def screenClearsUptoCard : Claim7 := { stood := { row := screenClearsUptoRow, standIns := [], harness := (true, "705957de36b36c3598fda81f9d56006a2f636c4812c72a1772f2aa96b3296aa4"), looks := false }, kinds := [], alts := [], laidByText := true, laidKinds := [.data, .data], laidTests := true, laidLooks := .later }
def ScreenClearsUptoCardSaid : Prop := Claim7.holds Tryd.pinned (.plain (OpenSpec.upto screenClearsSpec)) screenClearsUptoCard

/-- THE SECOND FORM's CARD OF 'oriellaw17.ScreenWhole'. -/
def screenWholeUptoCard : Claim7 := { stood := { row := screenWholeUptoRow, standIns := [], harness := (true, "705957de36b36c3598fda81f9d56006a2f636c4812c72a1772f2aa96b3296aa4"), looks := false }, kinds := [], alts := [], laidByText := true, laidKinds := [.data, .data], laidTests := true, laidLooks := .later }
def ScreenWholeUptoCardSaid : Prop := Claim7.holds Tryd.pinned (.plain (OpenSpec.upto screenWholeSpec)) screenWholeUptoCard

/-- THE SECOND FORM's CARD OF 'oriellaw17.ScreenPages'. -/
def screenPagesUptoCard : Claim7 := { stood := { row := screenPagesUptoRow, standIns := [], harness := (true, "705957de36b36c3598fda81f9d56006a2f636c4812c72a1772f2aa96b3296aa4"), looks := false }, kinds := [], alts := [], laidByText := true, laidKinds := [.data, .data], laidTests := true, laidLooks := .later }
def ScreenPagesUptoCardSaid : Prop := Claim7.holds Tryd.pinned (.plain (OpenSpec.upto screenPagesSpec)) screenPagesUptoCard

/-- THE SECOND FORM's CARD OF 'oriellaw17.ScreenMoves'. -/
def screenMovesUptoCard : Claim7 := { stood := { row := screenMovesUptoRow, standIns := [], harness := (true, "705957de36b36c3598fda81f9d56006a2f636c4812c72a1772f2aa96b3296aa4"), looks := false }, kinds := [], alts := [], laidByText := true, laidKinds := [.data, .data], laidTests := true, laidLooks := .later }
def ScreenMovesUptoCardSaid : Prop := Claim7.holds Tryd.pinned (.plain (OpenSpec.upto screenMovesSpec)) screenMovesUptoCard
end Rows
end Go.Proofs.YtfadcigdmddndaaDoor
