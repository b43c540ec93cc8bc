/-
  DERIVED. GIVEN WITH THE SEED: THE CARDS: each row of YtaaolcldpfcikaaGreatDoorRows.lean that lists a variable, with what it lists TIED to the program's text (the seventh form; the later family's looks); each row that meets fmt, with fmt's text TOLD by the authors' own Lean function (tested against real Go, not proved from fmt's source: count such statements apart). THE CARD IS WHAT COUNTS. Prove the row's statement (the work); the ties are given (YtaaolcldpfcikaaGreatDoorTie.lean); close each card by the builder's one call (the guide's Derived/Test/ToyasCard.lean, 'card_holds'). Laid BY PROGRAM, IN A SANDBOX (cutbox-door.mjs). By AI agents, Wed Nov 11 2026. No macro, syntax, notation, axiom, sorry.
-/
import Derived.Test.YtaaolcldpfcikaaGreatDoorRows
import GoSem.ClaimSeven
namespace Go.Proofs.YtaaolcldpfcikaaGreatDoor
namespace Rows

/-- THE TIED CARD OF 'oriellaw18.EmuActions'. -/
def emuActionsCard : Claim7 := { stood := { row := emuActionsRow, standIns := [], harness := (true, "142c0f2f96be348abb1f491eadbd570df9ca662900d8db9231022070097fb6e4"), looks := false }, kinds := [], alts := [], laidByText := true, laidKinds := [.data, .data, .data, .data], laidTests := true, laidLooks := .later }
def EmuActionsCardSaid : Prop := Claim7.holds Tryz.pinned (.plain (OpenSpec.ofChange emuActionsSpec)) emuActionsCard

/-- THE TIED CARD OF 'oriellaw18.EmuPlays'. -/
def emuPlaysCard : Claim7 := { stood := { row := emuPlaysRow, standIns := [], harness := (true, "142c0f2f96be348abb1f491eadbd570df9ca662900d8db9231022070097fb6e4"), looks := false }, kinds := [], alts := [], laidByText := true, laidKinds := [.data, .data, .data, .data], laidTests := true, laidLooks := .later }
def EmuPlaysCardSaid : Prop := Claim7.holds Tryz.pinned (.plain (OpenSpec.ofChange emuPlaysSpec)) emuPlaysCard

/-- THE TIED CARD OF 'oriellaw18.EmuNone'. -/
def emuNoneCard : Claim7 := { stood := { row := emuNoneRow, standIns := [], harness := (true, "142c0f2f96be348abb1f491eadbd570df9ca662900d8db9231022070097fb6e4"), looks := false }, kinds := [], alts := [], laidByText := true, laidKinds := [.data, .data, .data, .data], laidTests := true, laidLooks := .later }
def EmuNoneCardSaid : Prop := Claim7.holds Tryz.pinned (.plain (OpenSpec.ofChange emuNoneSpec)) emuNoneCard

/-- THE TIED CARD OF 'oriellaw18.EmuPieces'. -/
def emuPiecesCard : Claim7 := { stood := { row := emuPiecesRow, standIns := [], harness := (true, "142c0f2f96be348abb1f491eadbd570df9ca662900d8db9231022070097fb6e4"), looks := false }, kinds := [], alts := [], laidByText := true, laidKinds := [.data, .data, .data, .data], laidTests := true, laidLooks := .later }
def EmuPiecesCardSaid : Prop := Claim7.holds Tryz.pinned (.plain (OpenSpec.ofChange emuPiecesSpec)) emuPiecesCard

/-- THE TIED CARD OF 'oriellaw18.EmuReset'. -/
def emuResetCard : Claim7 := { stood := { row := emuResetRow, standIns := [], harness := (true, "142c0f2f96be348abb1f491eadbd570df9ca662900d8db9231022070097fb6e4"), looks := false }, kinds := [], alts := [], laidByText := true, laidKinds := [.data, .data, .data, .data], laidTests := true, laidLooks := .later }
def EmuResetCardSaid : Prop := Claim7.holds Tryz.pinned (.plain (OpenSpec.ofChange emuResetSpec)) emuResetCard

/-- THE TIED CARD OF 'oriellaw18.EmuPrints'. -/
def emuPrintsCard : Claim7 := { stood := { row := emuPrintsRow, standIns := [], harness := (true, "142c0f2f96be348abb1f491eadbd570df9ca662900d8db9231022070097fb6e4"), looks := false }, kinds := [], alts := [], laidByText := true, laidKinds := [.data, .data, .data, .data], laidTests := true, laidLooks := .later }
def EmuPrintsCardSaid : Prop := Claim7.holds Tryz.pinned (.plain (OpenSpec.ofChange emuPrintsSpec)) emuPrintsCard

/-- THE SECOND FORM's CARD OF 'oriellaw18.EmuActions'. -/
def emuActionsUptoCard : Claim7 := { stood := { row := emuActionsUptoRow, standIns := [], harness := (true, "142c0f2f96be348abb1f491eadbd570df9ca662900d8db9231022070097fb6e4"), looks := false }, kinds := [], alts := [], laidByText := true, laidKinds := [.data, .data, .data, .data], laidTests := true, laidLooks := .later }
def EmuActionsUptoCardSaid : Prop := Claim7.holds Tryz.pinned (.plain (OpenSpec.upto emuActionsSpec)) emuActionsUptoCard

/-- THE SECOND FORM's CARD OF 'oriellaw18.EmuPlays'. -/
def emuPlaysUptoCard : Claim7 := { stood := { row := emuPlaysUptoRow, standIns := [], harness := (true, "142c0f2f96be348abb1f491eadbd570df9ca662900d8db9231022070097fb6e4"), looks := false }, kinds := [], alts := [], laidByText := true, laidKinds := [.data, .data, .data, .data], laidTests := true, laidLooks := .later }
def EmuPlaysUptoCardSaid : Prop := Claim7.holds Tryz.pinned (.plain (OpenSpec.upto emuPlaysSpec)) emuPlaysUptoCard

/-- THE SECOND FORM's CARD OF 'oriellaw18.EmuNone'. -/
def emuNoneUptoCard : Claim7 := { stood := { row := emuNoneUptoRow, standIns := [], harness := (true, "142c0f2f96be348abb1f491eadbd570df9ca662900d8db9231022070097fb6e4"), looks := false }, kinds := [], alts := [], laidByText := true, laidKinds := [.data, .data, .data, .data], laidTests := true, laidLooks := .later }
def EmuNoneUptoCardSaid : Prop := Claim7.holds Tryz.pinned (.plain (OpenSpec.upto emuNoneSpec)) emuNoneUptoCard

/-- THE SECOND FORM's CARD OF 'oriellaw18.EmuPieces'. -/
def emuPiecesUptoCard : Claim7 := { stood := { row := emuPiecesUptoRow, standIns := [], harness := (true, "142c0f2f96be348abb1f491eadbd570df9ca662900d8db9231022070097fb6e4"), looks := false }, kinds := [], alts := [], laidByText := true, laidKinds := [.data, .data, .data, .data], laidTests := true, laidLooks := .later }
def EmuPiecesUptoCardSaid : Prop := Claim7.holds Tryz.pinned (.plain (OpenSpec.upto emuPiecesSpec)) emuPiecesUptoCard

/-- THE SECOND FORM's CARD OF 'oriellaw18.EmuReset'. -/
def emuResetUptoCard : Claim7 := { stood := { row := emuResetUptoRow, standIns := [], harness := (true, "142c0f2f96be348abb1f491eadbd570df9ca662900d8db9231022070097fb6e4"), looks := false }, kinds := [], alts := [], laidByText := true, laidKinds := [.data, .data, .data, .data], laidTests := true, laidLooks := .later }
def EmuResetUptoCardSaid : Prop := Claim7.holds Tryz.pinned (.plain (OpenSpec.upto emuResetSpec)) emuResetUptoCard

/-- THE SECOND FORM's CARD OF 'oriellaw18.EmuPrints'. -/
def emuPrintsUptoCard : Claim7 := { stood := { row := emuPrintsUptoRow, standIns := [], harness := (true, "142c0f2f96be348abb1f491eadbd570df9ca662900d8db9231022070097fb6e4"), looks := false }, kinds := [], alts := [], laidByText := true, laidKinds := [.data, .data, .data, .data], laidTests := true, laidLooks := .later }
def EmuPrintsUptoCardSaid : Prop := Claim7.holds Tryz.pinned (.plain (OpenSpec.upto emuPrintsSpec)) emuPrintsUptoCard
end Rows
end Go.Proofs.YtaaolcldpfcikaaGreatDoor
