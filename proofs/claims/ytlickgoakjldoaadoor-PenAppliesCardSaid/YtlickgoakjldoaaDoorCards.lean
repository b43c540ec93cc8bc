/-
  DERIVED. GIVEN WITH THE SEED: THE CARDS: each row of YtlickgoakjldoaaDoorRows.lean that lists a variable, with what it lists TIED to the program's text (the seventh form; the later family's looks); each row that meets fmt, with fmt's text TOLD by the authors' own Lean function (tested against real Go, not proved from fmt's source: count such statements apart). THE CARD IS WHAT COUNTS. Prove the row's statement (the work); the ties are given (YtlickgoakjldoaaDoorTie.lean); close each card by the builder's one call (the guide's Derived/Test/ToyasCard.lean, 'card_holds'). Laid BY PROGRAM, IN A SANDBOX (cutbox-door.mjs). By AI agents, Wed Nov 11 2026. No macro, syntax, notation, axiom, sorry.
-/
import Derived.Test.YtlickgoakjldoaaDoorRows
import GoSem.ClaimSeven
namespace Go.Proofs.YtlickgoakjldoaaDoor
namespace Rows

/-- THE TIED CARD OF 'oriellaw12.PenApplies'. -/
def penAppliesCard : Claim7 := { stood := { row := penAppliesRow, standIns := [], harness := (true, "69c4e3b365d7a365fab2e8e1414c33d48e738b14cf114a40a00fcccf6801c382"), looks := false }, kinds := [], alts := [], laidByText := true, laidKinds := [.data, .data, .data], laidTests := true, laidLooks := .later }
def PenAppliesCardSaid : Prop := Claim7.holds Tryd.pinned (.plain (OpenSpec.ofChange penAppliesSpec)) penAppliesCard

/-- THE TIED CARD OF 'oriellaw12.PenTurns'. -/
def penTurnsCard : Claim7 := { stood := { row := penTurnsRow, standIns := [], harness := (true, "69c4e3b365d7a365fab2e8e1414c33d48e738b14cf114a40a00fcccf6801c382"), looks := false }, kinds := [], alts := [], laidByText := true, laidKinds := [.data, .data, .data], laidTests := true, laidLooks := .later }
def PenTurnsCardSaid : Prop := Claim7.holds Tryd.pinned (.plain (OpenSpec.ofChange penTurnsSpec)) penTurnsCard

/-- THE TIED CARD OF 'oriellaw12.PenBack'. -/
def penBackCard : Claim7 := { stood := { row := penBackRow, standIns := [], harness := (true, "69c4e3b365d7a365fab2e8e1414c33d48e738b14cf114a40a00fcccf6801c382"), looks := false }, kinds := [], alts := [], laidByText := true, laidKinds := [.data, .data, .data], laidTests := true, laidLooks := .later }
def PenBackCardSaid : Prop := Claim7.holds Tryd.pinned (.plain (OpenSpec.ofChange penBackSpec)) penBackCard

/-- THE TIED CARD OF 'oriellaw12.PenFresh'. -/
def penFreshCard : Claim7 := { stood := { row := penFreshRow, standIns := [], harness := (true, "69c4e3b365d7a365fab2e8e1414c33d48e738b14cf114a40a00fcccf6801c382"), looks := false }, kinds := [], alts := [], laidByText := true, laidKinds := [.data, .data, .data], laidTests := true, laidLooks := .later }
def PenFreshCardSaid : Prop := Claim7.holds Tryd.pinned (.plain (OpenSpec.ofChange penFreshSpec)) penFreshCard

/-- THE TIED CARD OF 'oriellaw12.PenOne'. -/
def penOneCard : Claim7 := { stood := { row := penOneRow, standIns := [], harness := (true, "69c4e3b365d7a365fab2e8e1414c33d48e738b14cf114a40a00fcccf6801c382"), looks := false }, kinds := [], alts := [], laidByText := true, laidKinds := [.data, .data, .data], laidTests := true, laidLooks := .later }
def PenOneCardSaid : Prop := Claim7.holds Tryd.pinned (.plain (OpenSpec.ofChange penOneSpec)) penOneCard

/-- THE SECOND FORM's CARD OF 'oriellaw12.PenApplies'. -/
def penAppliesUptoCard : Claim7 := { stood := { row := penAppliesUptoRow, standIns := [], harness := (true, "69c4e3b365d7a365fab2e8e1414c33d48e738b14cf114a40a00fcccf6801c382"), looks := false }, kinds := [], alts := [], laidByText := true, laidKinds := [.data, .data, .data], laidTests := true, laidLooks := .later }
def PenAppliesUptoCardSaid : Prop := Claim7.holds Tryd.pinned (.plain (OpenSpec.upto penAppliesSpec)) penAppliesUptoCard

/-- THE SECOND FORM's CARD OF 'oriellaw12.PenTurns'. -/
def penTurnsUptoCard : Claim7 := { stood := { row := penTurnsUptoRow, standIns := [], harness := (true, "69c4e3b365d7a365fab2e8e1414c33d48e738b14cf114a40a00fcccf6801c382"), looks := false }, kinds := [], alts := [], laidByText := true, laidKinds := [.data, .data, .data], laidTests := true, laidLooks := .later }
def PenTurnsUptoCardSaid : Prop := Claim7.holds Tryd.pinned (.plain (OpenSpec.upto penTurnsSpec)) penTurnsUptoCard

/-- THE SECOND FORM's CARD OF 'oriellaw12.PenBack'. -/
def penBackUptoCard : Claim7 := { stood := { row := penBackUptoRow, standIns := [], harness := (true, "69c4e3b365d7a365fab2e8e1414c33d48e738b14cf114a40a00fcccf6801c382"), looks := false }, kinds := [], alts := [], laidByText := true, laidKinds := [.data, .data, .data], laidTests := true, laidLooks := .later }
def PenBackUptoCardSaid : Prop := Claim7.holds Tryd.pinned (.plain (OpenSpec.upto penBackSpec)) penBackUptoCard

/-- THE SECOND FORM's CARD OF 'oriellaw12.PenFresh'. -/
def penFreshUptoCard : Claim7 := { stood := { row := penFreshUptoRow, standIns := [], harness := (true, "69c4e3b365d7a365fab2e8e1414c33d48e738b14cf114a40a00fcccf6801c382"), looks := false }, kinds := [], alts := [], laidByText := true, laidKinds := [.data, .data, .data], laidTests := true, laidLooks := .later }
def PenFreshUptoCardSaid : Prop := Claim7.holds Tryd.pinned (.plain (OpenSpec.upto penFreshSpec)) penFreshUptoCard

/-- THE SECOND FORM's CARD OF 'oriellaw12.PenOne'. -/
def penOneUptoCard : Claim7 := { stood := { row := penOneUptoRow, standIns := [], harness := (true, "69c4e3b365d7a365fab2e8e1414c33d48e738b14cf114a40a00fcccf6801c382"), looks := false }, kinds := [], alts := [], laidByText := true, laidKinds := [.data, .data, .data], laidTests := true, laidLooks := .later }
def PenOneUptoCardSaid : Prop := Claim7.holds Tryd.pinned (.plain (OpenSpec.upto penOneSpec)) penOneUptoCard
end Rows
end Go.Proofs.YtlickgoakjldoaaDoor
