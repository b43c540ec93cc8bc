/-
  DERIVED. GIVEN WITH THE SEED: THE CARDS: each row of YtfadcigdmddndaaGreatDoorRows.lean that lists a variable, with what it lists TIED to the program's text (the seventh form; the later family's looks); each row that meets fmt, with fmt's text TOLD by the authors' own Lean function (tested against real Go, not proved from fmt's source: count such statements apart). THE CARD IS WHAT COUNTS. Prove the row's statement (the work); the ties are given (YtfadcigdmddndaaGreatDoorTie.lean); close each card by the builder's one call (the guide's Derived/Test/ToyasCard.lean, 'card_holds'). Laid BY PROGRAM, IN A SANDBOX (cutbox-door.mjs). By AI agents, Wed Nov 11 2026. No macro, syntax, notation, axiom, sorry.
-/
import Derived.Test.YtfadcigdmddndaaGreatDoorRows
import GoSem.ClaimSeven
namespace Go.Proofs.YtfadcigdmddndaaGreatDoor
namespace Rows

/-- THE TIED CARD OF 'oriellaw17.ScreenPlays'. -/
def screenPlaysCard : Claim7 := { stood := { row := screenPlaysRow, standIns := [], harness := (true, "bcc097a2956cdb1423c32ca55e0c9f0f2850e778494160adfd26edae83a59deb"), looks := false }, kinds := [], alts := [], laidByText := true, laidKinds := [.data, .data], laidTests := true, laidLooks := .later }
def ScreenPlaysCardSaid : Prop := Claim7.holds Tryz.pinned (.plain (OpenSpec.ofChange screenPlaysSpec)) screenPlaysCard

/-- THE TIED CARD OF 'oriellaw17.ScreenAny'. -/
def screenAnyCard : Claim7 := { stood := { row := screenAnyRow, standIns := [], harness := (true, "bcc097a2956cdb1423c32ca55e0c9f0f2850e778494160adfd26edae83a59deb"), looks := false }, kinds := [], alts := [], laidByText := true, laidKinds := [.data, .data], laidTests := true, laidLooks := .later }
def ScreenAnyCardSaid : Prop := Claim7.holds Tryz.pinned (.plain (OpenSpec.ofChange screenAnySpec)) screenAnyCard

/-- THE SECOND FORM's CARD OF 'oriellaw17.ScreenPlays'. -/
def screenPlaysUptoCard : Claim7 := { stood := { row := screenPlaysUptoRow, standIns := [], harness := (true, "bcc097a2956cdb1423c32ca55e0c9f0f2850e778494160adfd26edae83a59deb"), looks := false }, kinds := [], alts := [], laidByText := true, laidKinds := [.data, .data], laidTests := true, laidLooks := .later }
def ScreenPlaysUptoCardSaid : Prop := Claim7.holds Tryz.pinned (.plain (OpenSpec.upto screenPlaysSpec)) screenPlaysUptoCard

/-- THE SECOND FORM's CARD OF 'oriellaw17.ScreenAny'. -/
def screenAnyUptoCard : Claim7 := { stood := { row := screenAnyUptoRow, standIns := [], harness := (true, "bcc097a2956cdb1423c32ca55e0c9f0f2850e778494160adfd26edae83a59deb"), looks := false }, kinds := [], alts := [], laidByText := true, laidKinds := [.data, .data], laidTests := true, laidLooks := .later }
def ScreenAnyUptoCardSaid : Prop := Claim7.holds Tryz.pinned (.plain (OpenSpec.upto screenAnySpec)) screenAnyUptoCard
end Rows
end Go.Proofs.YtfadcigdmddndaaGreatDoor
