/-
  NARROWER THAN 'FOR EVERY INPUT', by the rows' own cells (each row's printed sentence says how): EmuActions: laid · EmuPlays: laid · EmuNone: laid · EmuPieces: laid · EmuReset: laid · EmuPrints: laid.
  DERIVED. THE GIVEN ROWS OF THIS SEAT. 6 by the template 'for every input the law returns true; each argument reads behind the call as it read before'; 0 by the template 'total and deterministic' (their statements: YtaaolcldpfcikaaGreatDoorTotals.lean).
  GIVEN WITH THE SEED: the statements are not yours to turn. If you find one false, say at which input.
  Laid BY PROGRAM, IN A SANDBOX (cutbox-rows.mjs): the forced cells as the released guide's own fill.sh prints them over the translation 7fc5d804d034309a… (all of the seat's roots in one cut). By AI agents, Wed Nov 11 2026. No macro, syntax, notation, axiom, sorry.
-/
import Derived.Test.YtaaolcldpfcikaaGreatDoorChecked
import GoSem.Claim
import GoSem.ClaimJoined
import GoSem.ClaimMapViews
import Derived.JoinedTies
import Derived.KernelRfl
namespace Go.Proofs.YtaaolcldpfcikaaGreatDoor
/- THE CELL 'sum', in the pinned program and in every row, IS THE sha256 OF THE DUMP (.gsa) THAT YtaaolcldpfcikaaGreatDoorProg.lean LOADS. Nothing in Lean hashes anything: it is a label: what it is worth is what the hold of that sum in a sandbox is worth. -/
noncomputable def Tryz.pinned : Pinned := { name := "ytaaolcldpfcikaagreatdoor", sum := "7fc5d804d034309a5d3cc3b406419a8c2c2a881e56d39284665f5cc54038832f", checked := Tryz.checked }
namespace Rows
def none {H : Type} : Left H := { results := [], args := [] }

/- WHAT THE LISTED PACKAGE-LEVEL VARIABLES READ AS WHEN THE CALL BEGINS. Each datum BY PROGRAM (the guide's laid-datum.mjs) off the statement by which the dump's own 'gosem.cut.vars' lays the variable. In a bare row this is a premise. The card (YtaaolcldpfcikaaGreatDoorCards.lean) ties it to the program's text. -/
def laid_math_bits_deBruijn32tab {H : Type} : DataW H := .agg [.lit (.int .u8 0), .lit (.int .u8 1), .lit (.int .u8 28), .lit (.int .u8 2), .lit (.int .u8 29), .lit (.int .u8 14), .lit (.int .u8 24), .lit (.int .u8 3), .lit (.int .u8 30), .lit (.int .u8 22), .lit (.int .u8 20), .lit (.int .u8 15), .lit (.int .u8 25), .lit (.int .u8 17), .lit (.int .u8 4), .lit (.int .u8 8), .lit (.int .u8 31), .lit (.int .u8 27), .lit (.int .u8 13), .lit (.int .u8 23), .lit (.int .u8 21), .lit (.int .u8 19), .lit (.int .u8 16), .lit (.int .u8 7), .lit (.int .u8 26), .lit (.int .u8 12), .lit (.int .u8 18), .lit (.int .u8 6), .lit (.int .u8 11), .lit (.int .u8 5), .lit (.int .u8 10), .lit (.int .u8 9)]
def laid_math_bits_deBruijn64tab {H : Type} : DataW H := .agg [.lit (.int .u8 0), .lit (.int .u8 1), .lit (.int .u8 56), .lit (.int .u8 2), .lit (.int .u8 57), .lit (.int .u8 49), .lit (.int .u8 28), .lit (.int .u8 3), .lit (.int .u8 61), .lit (.int .u8 58), .lit (.int .u8 42), .lit (.int .u8 50), .lit (.int .u8 38), .lit (.int .u8 29), .lit (.int .u8 17), .lit (.int .u8 4), .lit (.int .u8 62), .lit (.int .u8 47), .lit (.int .u8 59), .lit (.int .u8 36), .lit (.int .u8 45), .lit (.int .u8 43), .lit (.int .u8 51), .lit (.int .u8 22), .lit (.int .u8 53), .lit (.int .u8 39), .lit (.int .u8 33), .lit (.int .u8 30), .lit (.int .u8 24), .lit (.int .u8 18), .lit (.int .u8 12), .lit (.int .u8 5), .lit (.int .u8 63), .lit (.int .u8 55), .lit (.int .u8 48), .lit (.int .u8 27), .lit (.int .u8 60), .lit (.int .u8 41), .lit (.int .u8 37), .lit (.int .u8 16), .lit (.int .u8 46), .lit (.int .u8 35), .lit (.int .u8 44), .lit (.int .u8 21), .lit (.int .u8 52), .lit (.int .u8 32), .lit (.int .u8 23), .lit (.int .u8 11), .lit (.int .u8 54), .lit (.int .u8 26), .lit (.int .u8 40), .lit (.int .u8 15), .lit (.int .u8 34), .lit (.int .u8 20), .lit (.int .u8 31), .lit (.int .u8 10), .lit (.int .u8 25), .lit (.int .u8 14), .lit (.int .u8 19), .lit (.int .u8 9), .lit (.int .u8 13), .lit (.int .u8 8), .lit (.int .u8 7), .lit (.int .u8 6)]
def laid_internal_strconv_uint64pow10 {H : Type} : DataW H := .agg [.lit (.int .u64 1), .lit (.int .u64 10), .lit (.int .u64 100), .lit (.int .u64 1000), .lit (.int .u64 10000), .lit (.int .u64 100000), .lit (.int .u64 1000000), .lit (.int .u64 10000000), .lit (.int .u64 100000000), .lit (.int .u64 1000000000), .lit (.int .u64 10000000000), .lit (.int .u64 100000000000), .lit (.int .u64 1000000000000), .lit (.int .u64 10000000000000), .lit (.int .u64 100000000000000), .lit (.int .u64 1000000000000000), .lit (.int .u64 10000000000000000), .lit (.int .u64 100000000000000000), .lit (.int .u64 1000000000000000000), .lit (.int .u64 10000000000000000000)]
def laid_oriel_cols_bounds {H : Type} : DataW H := .agg [.agg [.lit (.int .i32 768), .lit (.int .i32 879), .lit (.int .i32 0)], .agg [.lit (.int .i32 1155), .lit (.int .i32 1161), .lit (.int .i32 0)], .agg [.lit (.int .i32 1425), .lit (.int .i32 1469), .lit (.int .i32 0)], .agg [.lit (.int .i32 1552), .lit (.int .i32 1562), .lit (.int .i32 0)], .agg [.lit (.int .i32 1611), .lit (.int .i32 1631), .lit (.int .i32 0)], .agg [.lit (.int .i32 4352), .lit (.int .i32 4447), .lit (.int .i32 2)], .agg [.lit (.int .i32 6832), .lit (.int .i32 6911), .lit (.int .i32 0)], .agg [.lit (.int .i32 7616), .lit (.int .i32 7679), .lit (.int .i32 0)], .agg [.lit (.int .i32 8203), .lit (.int .i32 8207), .lit (.int .i32 0)], .agg [.lit (.int .i32 8400), .lit (.int .i32 8447), .lit (.int .i32 0)], .agg [.lit (.int .i32 11904), .lit (.int .i32 12350), .lit (.int .i32 2)], .agg [.lit (.int .i32 12353), .lit (.int .i32 42191), .lit (.int .i32 2)], .agg [.lit (.int .i32 44032), .lit (.int .i32 55203), .lit (.int .i32 2)], .agg [.lit (.int .i32 63744), .lit (.int .i32 64255), .lit (.int .i32 2)], .agg [.lit (.int .i32 65024), .lit (.int .i32 65039), .lit (.int .i32 0)], .agg [.lit (.int .i32 65056), .lit (.int .i32 65071), .lit (.int .i32 0)], .agg [.lit (.int .i32 65072), .lit (.int .i32 65135), .lit (.int .i32 2)], .agg [.lit (.int .i32 65280), .lit (.int .i32 65376), .lit (.int .i32 2)], .agg [.lit (.int .i32 65504), .lit (.int .i32 65510), .lit (.int .i32 2)], .agg [.lit (.int .i32 127744), .lit (.int .i32 128591), .lit (.int .i32 2)], .agg [.lit (.int .i32 129280), .lit (.int .i32 129535), .lit (.int .i32 2)], .agg [.lit (.int .i32 131072), .lit (.int .i32 262141), .lit (.int .i32 2)]]

/-- 'oriellaw18.EmuActions': WHATEVER THE INPUT: true; the input reads as it did. -/
def emuActionsSpec : ChangeSpec := { name := "emuActions", fn := fun _ => fun
  | [d1, d2, d3, d4, d5, d6, d7] => { results := [.lit (.bool true)], args := [d1, d2, d3, d4, d5, d6, d7] }
  | _ => none }
def emuActionsRow : OpenClaim := { program := "ytaaolcldpfcikaagreatdoor", sum := "7fc5d804d034309a5d3cc3b406419a8c2c2a881e56d39284665f5cc54038832f", func := "oriel/oriellaw18.EmuActions", spec := "emuActions", unfollowed := true, recurses := true, named := ["oriel/cols.bounds", "math/bits.deBruijn64tab", "internal/strconv.uint64pow10", "math/bits.deBruijn32tab"], apart := false, laid := [("math/bits.deBruijn32tab", laid_math_bits_deBruijn32tab), ("math/bits.deBruijn64tab", laid_math_bits_deBruijn64tab), ("internal/strconv.uint64pow10", laid_internal_strconv_uint64pow10), ("oriel/cols.bounds", laid_oriel_cols_bounds)] }
def EmuActionsSaid : Prop := emuActionsRow.holds Tryz.pinned (OpenSpec.ofChange emuActionsSpec)

/-- ITS FALSE NEIGHBOUR: 'it returns false'. Refute it at one input. -/
def emuActionsWrong : ChangeSpec := { name := "emuActions", fn := fun _ => fun
  | [d1, d2, d3, d4, d5, d6, d7] => { results := [.lit (.bool false)], args := [d1, d2, d3, d4, d5, d6, d7] }
  | _ => none }
def EmuActionsWrongFalsely : Prop := emuActionsRow.holds Tryz.pinned (OpenSpec.ofChange emuActionsWrong)

/-- 'oriellaw18.EmuPlays': WHATEVER THE INPUT: true; the input reads as it did. -/
def emuPlaysSpec : ChangeSpec := { name := "emuPlays", fn := fun _ => fun
  | [d1, d2, d3] => { results := [.lit (.bool true)], args := [d1, d2, d3] }
  | _ => none }
def emuPlaysRow : OpenClaim := { program := "ytaaolcldpfcikaagreatdoor", sum := "7fc5d804d034309a5d3cc3b406419a8c2c2a881e56d39284665f5cc54038832f", func := "oriel/oriellaw18.EmuPlays", spec := "emuPlays", unfollowed := true, recurses := true, named := ["oriel/cols.bounds", "math/bits.deBruijn64tab", "internal/strconv.uint64pow10", "math/bits.deBruijn32tab"], apart := false, laid := [("math/bits.deBruijn32tab", laid_math_bits_deBruijn32tab), ("math/bits.deBruijn64tab", laid_math_bits_deBruijn64tab), ("internal/strconv.uint64pow10", laid_internal_strconv_uint64pow10), ("oriel/cols.bounds", laid_oriel_cols_bounds)] }
def EmuPlaysSaid : Prop := emuPlaysRow.holds Tryz.pinned (OpenSpec.ofChange emuPlaysSpec)

/-- ITS FALSE NEIGHBOUR: 'it returns false'. Refute it at one input. -/
def emuPlaysWrong : ChangeSpec := { name := "emuPlays", fn := fun _ => fun
  | [d1, d2, d3] => { results := [.lit (.bool false)], args := [d1, d2, d3] }
  | _ => none }
def EmuPlaysWrongFalsely : Prop := emuPlaysRow.holds Tryz.pinned (OpenSpec.ofChange emuPlaysWrong)

/-- 'oriellaw18.EmuNone': WHATEVER THE INPUT: true; the input reads as it did. -/
def emuNoneSpec : ChangeSpec := { name := "emuNone", fn := fun _ => fun
  | [d1, d2, d3] => { results := [.lit (.bool true)], args := [d1, d2, d3] }
  | _ => none }
def emuNoneRow : OpenClaim := { program := "ytaaolcldpfcikaagreatdoor", sum := "7fc5d804d034309a5d3cc3b406419a8c2c2a881e56d39284665f5cc54038832f", func := "oriel/oriellaw18.EmuNone", spec := "emuNone", unfollowed := true, recurses := true, named := ["oriel/cols.bounds", "math/bits.deBruijn64tab", "internal/strconv.uint64pow10", "math/bits.deBruijn32tab"], apart := false, laid := [("math/bits.deBruijn32tab", laid_math_bits_deBruijn32tab), ("math/bits.deBruijn64tab", laid_math_bits_deBruijn64tab), ("internal/strconv.uint64pow10", laid_internal_strconv_uint64pow10), ("oriel/cols.bounds", laid_oriel_cols_bounds)] }
def EmuNoneSaid : Prop := emuNoneRow.holds Tryz.pinned (OpenSpec.ofChange emuNoneSpec)

/-- ITS FALSE NEIGHBOUR: 'it returns false'. Refute it at one input. -/
def emuNoneWrong : ChangeSpec := { name := "emuNone", fn := fun _ => fun
  | [d1, d2, d3] => { results := [.lit (.bool false)], args := [d1, d2, d3] }
  | _ => none }
def EmuNoneWrongFalsely : Prop := emuNoneRow.holds Tryz.pinned (OpenSpec.ofChange emuNoneWrong)

/-- 'oriellaw18.EmuPieces': WHATEVER THE INPUT: true; the input reads as it did. -/
def emuPiecesSpec : ChangeSpec := { name := "emuPieces", fn := fun _ => fun
  | [d1, d2, d3, d4, d5] => { results := [.lit (.bool true)], args := [d1, d2, d3, d4, d5] }
  | _ => none }
def emuPiecesRow : OpenClaim := { program := "ytaaolcldpfcikaagreatdoor", sum := "7fc5d804d034309a5d3cc3b406419a8c2c2a881e56d39284665f5cc54038832f", func := "oriel/oriellaw18.EmuPieces", spec := "emuPieces", unfollowed := true, recurses := true, named := ["oriel/cols.bounds", "math/bits.deBruijn64tab", "internal/strconv.uint64pow10", "math/bits.deBruijn32tab"], apart := false, laid := [("math/bits.deBruijn32tab", laid_math_bits_deBruijn32tab), ("math/bits.deBruijn64tab", laid_math_bits_deBruijn64tab), ("internal/strconv.uint64pow10", laid_internal_strconv_uint64pow10), ("oriel/cols.bounds", laid_oriel_cols_bounds)] }
def EmuPiecesSaid : Prop := emuPiecesRow.holds Tryz.pinned (OpenSpec.ofChange emuPiecesSpec)

/-- ITS FALSE NEIGHBOUR: 'it returns false'. Refute it at one input. -/
def emuPiecesWrong : ChangeSpec := { name := "emuPieces", fn := fun _ => fun
  | [d1, d2, d3, d4, d5] => { results := [.lit (.bool false)], args := [d1, d2, d3, d4, d5] }
  | _ => none }
def EmuPiecesWrongFalsely : Prop := emuPiecesRow.holds Tryz.pinned (OpenSpec.ofChange emuPiecesWrong)

/-- 'oriellaw18.EmuReset': WHATEVER THE INPUT: true; the input reads as it did. -/
def emuResetSpec : ChangeSpec := { name := "emuReset", fn := fun _ => fun
  | [d1, d2, d3, d4] => { results := [.lit (.bool true)], args := [d1, d2, d3, d4] }
  | _ => none }
def emuResetRow : OpenClaim := { program := "ytaaolcldpfcikaagreatdoor", sum := "7fc5d804d034309a5d3cc3b406419a8c2c2a881e56d39284665f5cc54038832f", func := "oriel/oriellaw18.EmuReset", spec := "emuReset", unfollowed := true, recurses := true, named := ["oriel/cols.bounds", "math/bits.deBruijn64tab", "internal/strconv.uint64pow10", "math/bits.deBruijn32tab"], apart := false, laid := [("math/bits.deBruijn32tab", laid_math_bits_deBruijn32tab), ("math/bits.deBruijn64tab", laid_math_bits_deBruijn64tab), ("internal/strconv.uint64pow10", laid_internal_strconv_uint64pow10), ("oriel/cols.bounds", laid_oriel_cols_bounds)] }
def EmuResetSaid : Prop := emuResetRow.holds Tryz.pinned (OpenSpec.ofChange emuResetSpec)

/-- ITS FALSE NEIGHBOUR: 'it returns false'. Refute it at one input. -/
def emuResetWrong : ChangeSpec := { name := "emuReset", fn := fun _ => fun
  | [d1, d2, d3, d4] => { results := [.lit (.bool false)], args := [d1, d2, d3, d4] }
  | _ => none }
def EmuResetWrongFalsely : Prop := emuResetRow.holds Tryz.pinned (OpenSpec.ofChange emuResetWrong)

/-- 'oriellaw18.EmuPrints': WHATEVER THE INPUT: true; the input reads as it did. -/
def emuPrintsSpec : ChangeSpec := { name := "emuPrints", fn := fun _ => fun
  | [d1, d2, d3] => { results := [.lit (.bool true)], args := [d1, d2, d3] }
  | _ => none }
def emuPrintsRow : OpenClaim := { program := "ytaaolcldpfcikaagreatdoor", sum := "7fc5d804d034309a5d3cc3b406419a8c2c2a881e56d39284665f5cc54038832f", func := "oriel/oriellaw18.EmuPrints", spec := "emuPrints", unfollowed := true, recurses := true, named := ["oriel/cols.bounds", "math/bits.deBruijn64tab", "internal/strconv.uint64pow10", "math/bits.deBruijn32tab"], apart := false, laid := [("math/bits.deBruijn32tab", laid_math_bits_deBruijn32tab), ("math/bits.deBruijn64tab", laid_math_bits_deBruijn64tab), ("internal/strconv.uint64pow10", laid_internal_strconv_uint64pow10), ("oriel/cols.bounds", laid_oriel_cols_bounds)] }
def EmuPrintsSaid : Prop := emuPrintsRow.holds Tryz.pinned (OpenSpec.ofChange emuPrintsSpec)

/-- ITS FALSE NEIGHBOUR: 'it returns false'. Refute it at one input. -/
def emuPrintsWrong : ChangeSpec := { name := "emuPrints", fn := fun _ => fun
  | [d1, d2, d3] => { results := [.lit (.bool false)], args := [d1, d2, d3] }
  | _ => none }
def EmuPrintsWrongFalsely : Prop := emuPrintsRow.holds Tryz.pinned (OpenSpec.ofChange emuPrintsWrong)

/- THE SECOND FORM. 'bulk': how many values and letters a reading holds, each counted each time it is reached (what is shared counts as often as it is met; a slice's spare places count too). A statement '..UptoSaid' is the law's where the arguments, and the package variables that the reading takes, are together of bulk at most 1048576: NARROWER than '..Said'. Prove '..Said' where nothing that the law and all that it calls make is longer than what came in: it says more and counts as full. Else prove '..UptoSaid'. A law counts once. -/
mutual
def uptoBulk {H : Type} : DataW H → Nat
  | .lit (.string bytes) => bytes.length + 1
  | .lit _ => 1
  | .nil => 1
  | .ptr d => uptoBulk d + 1
  | .slice elems spare => uptoBulkAll elems + uptoBulkAll spare + 1
  | .agg parts => uptoBulkAll parts + 1
  | .iface _ d => uptoBulk d + 1
  | .map entries => uptoBulkEntries entries + 1
  | .held _ => 1
def uptoBulkAll {H : Type} : List (DataW H) → Nat
  | [] => 0
  | d :: r => uptoBulk d + uptoBulkAll r
def uptoBulkEntries {H : Type} : List (Lit × DataW H) → Nat
  | [] => 0
  | x :: r => uptoBulkEntry x + uptoBulkEntries r
def uptoBulkEntry {H : Type} : Lit × DataW H → Nat
  | (.string bytes, d) => bytes.length + uptoBulk d + 1
  | (_, d) => uptoBulk d + 1
 end
def uptoSmall : (H : Type) → List (DataW H) → Bool := fun _ ds => decide (uptoBulkAll ds ≤ 1048576)
def OpenSpec.upto (s : _root_.Go.ChangeSpec) : _root_.Go.OpenSpec := { _root_.Go.OpenSpec.ofChange s with cond := some uptoSmall }

/-- 'oriellaw18.EmuActions', WHERE WHAT IT READS IS OF BULK AT MOST 1048576: true; the input reads as it did. -/
def emuActionsUptoRow : OpenClaim := { program := "ytaaolcldpfcikaagreatdoor", sum := "7fc5d804d034309a5d3cc3b406419a8c2c2a881e56d39284665f5cc54038832f", func := "oriel/oriellaw18.EmuActions", spec := "emuActions", unfollowed := true, recurses := true, named := ["oriel/cols.bounds", "math/bits.deBruijn64tab", "internal/strconv.uint64pow10", "math/bits.deBruijn32tab"], apart := false, laid := [("math/bits.deBruijn32tab", laid_math_bits_deBruijn32tab), ("math/bits.deBruijn64tab", laid_math_bits_deBruijn64tab), ("internal/strconv.uint64pow10", laid_internal_strconv_uint64pow10), ("oriel/cols.bounds", laid_oriel_cols_bounds)], narrowed := true }
def EmuActionsUptoSaid : Prop := emuActionsUptoRow.holds Tryz.pinned (OpenSpec.upto emuActionsSpec)

/-- 'oriellaw18.EmuPlays', WHERE WHAT IT READS IS OF BULK AT MOST 1048576: true; the input reads as it did. -/
def emuPlaysUptoRow : OpenClaim := { program := "ytaaolcldpfcikaagreatdoor", sum := "7fc5d804d034309a5d3cc3b406419a8c2c2a881e56d39284665f5cc54038832f", func := "oriel/oriellaw18.EmuPlays", spec := "emuPlays", unfollowed := true, recurses := true, named := ["oriel/cols.bounds", "math/bits.deBruijn64tab", "internal/strconv.uint64pow10", "math/bits.deBruijn32tab"], apart := false, laid := [("math/bits.deBruijn32tab", laid_math_bits_deBruijn32tab), ("math/bits.deBruijn64tab", laid_math_bits_deBruijn64tab), ("internal/strconv.uint64pow10", laid_internal_strconv_uint64pow10), ("oriel/cols.bounds", laid_oriel_cols_bounds)], narrowed := true }
def EmuPlaysUptoSaid : Prop := emuPlaysUptoRow.holds Tryz.pinned (OpenSpec.upto emuPlaysSpec)

/-- 'oriellaw18.EmuNone', WHERE WHAT IT READS IS OF BULK AT MOST 1048576: true; the input reads as it did. -/
def emuNoneUptoRow : OpenClaim := { program := "ytaaolcldpfcikaagreatdoor", sum := "7fc5d804d034309a5d3cc3b406419a8c2c2a881e56d39284665f5cc54038832f", func := "oriel/oriellaw18.EmuNone", spec := "emuNone", unfollowed := true, recurses := true, named := ["oriel/cols.bounds", "math/bits.deBruijn64tab", "internal/strconv.uint64pow10", "math/bits.deBruijn32tab"], apart := false, laid := [("math/bits.deBruijn32tab", laid_math_bits_deBruijn32tab), ("math/bits.deBruijn64tab", laid_math_bits_deBruijn64tab), ("internal/strconv.uint64pow10", laid_internal_strconv_uint64pow10), ("oriel/cols.bounds", laid_oriel_cols_bounds)], narrowed := true }
def EmuNoneUptoSaid : Prop := emuNoneUptoRow.holds Tryz.pinned (OpenSpec.upto emuNoneSpec)

/-- 'oriellaw18.EmuPieces', WHERE WHAT IT READS IS OF BULK AT MOST 1048576: true; the input reads as it did. -/
def emuPiecesUptoRow : OpenClaim := { program := "ytaaolcldpfcikaagreatdoor", sum := "7fc5d804d034309a5d3cc3b406419a8c2c2a881e56d39284665f5cc54038832f", func := "oriel/oriellaw18.EmuPieces", spec := "emuPieces", unfollowed := true, recurses := true, named := ["oriel/cols.bounds", "math/bits.deBruijn64tab", "internal/strconv.uint64pow10", "math/bits.deBruijn32tab"], apart := false, laid := [("math/bits.deBruijn32tab", laid_math_bits_deBruijn32tab), ("math/bits.deBruijn64tab", laid_math_bits_deBruijn64tab), ("internal/strconv.uint64pow10", laid_internal_strconv_uint64pow10), ("oriel/cols.bounds", laid_oriel_cols_bounds)], narrowed := true }
def EmuPiecesUptoSaid : Prop := emuPiecesUptoRow.holds Tryz.pinned (OpenSpec.upto emuPiecesSpec)

/-- 'oriellaw18.EmuReset', WHERE WHAT IT READS IS OF BULK AT MOST 1048576: true; the input reads as it did. -/
def emuResetUptoRow : OpenClaim := { program := "ytaaolcldpfcikaagreatdoor", sum := "7fc5d804d034309a5d3cc3b406419a8c2c2a881e56d39284665f5cc54038832f", func := "oriel/oriellaw18.EmuReset", spec := "emuReset", unfollowed := true, recurses := true, named := ["oriel/cols.bounds", "math/bits.deBruijn64tab", "internal/strconv.uint64pow10", "math/bits.deBruijn32tab"], apart := false, laid := [("math/bits.deBruijn32tab", laid_math_bits_deBruijn32tab), ("math/bits.deBruijn64tab", laid_math_bits_deBruijn64tab), ("internal/strconv.uint64pow10", laid_internal_strconv_uint64pow10), ("oriel/cols.bounds", laid_oriel_cols_bounds)], narrowed := true }
def EmuResetUptoSaid : Prop := emuResetUptoRow.holds Tryz.pinned (OpenSpec.upto emuResetSpec)

/-- 'oriellaw18.EmuPrints', WHERE WHAT IT READS IS OF BULK AT MOST 1048576: true; the input reads as it did. -/
def emuPrintsUptoRow : OpenClaim := { program := "ytaaolcldpfcikaagreatdoor", sum := "7fc5d804d034309a5d3cc3b406419a8c2c2a881e56d39284665f5cc54038832f", func := "oriel/oriellaw18.EmuPrints", spec := "emuPrints", unfollowed := true, recurses := true, named := ["oriel/cols.bounds", "math/bits.deBruijn64tab", "internal/strconv.uint64pow10", "math/bits.deBruijn32tab"], apart := false, laid := [("math/bits.deBruijn32tab", laid_math_bits_deBruijn32tab), ("math/bits.deBruijn64tab", laid_math_bits_deBruijn64tab), ("internal/strconv.uint64pow10", laid_internal_strconv_uint64pow10), ("oriel/cols.bounds", laid_oriel_cols_bounds)], narrowed := true }
def EmuPrintsUptoSaid : Prop := emuPrintsUptoRow.holds Tryz.pinned (OpenSpec.upto emuPrintsSpec)

end Rows
end Go.Proofs.YtaaolcldpfcikaaGreatDoor
