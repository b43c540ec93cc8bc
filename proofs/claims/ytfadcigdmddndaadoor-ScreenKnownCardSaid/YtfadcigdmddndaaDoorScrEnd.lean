/- The chapter's rows, and what is refused, are as the statement says: the card of ScreenKnown (closed: no input). -/
import Derived.Test.YtfadcigdmddndaaDoorScrHarn
import Derived.Test.YtfadcigdmddndaaDoorScrRun
import Derived.Test.YtfadcigdmddndaaDoorTie
import Derived.Test.YtfadcigdmddndaaDoorCards
import Derived.SevenTiedAt
set_option linter.unusedVariables false
set_option linter.unusedSimpArgs false
namespace Go.Proofs.YtfadcigdmddndaaDoor
open Go Go.SH

theorem known_pure : Pure En 3 [] (.bool true) := Y_pure En_pok rfl (screen_known_run' En rfl rfl)

theorem known_row : Rows.ScreenKnownSaid :=
  OpenClaim.holds_of_wide 3 Tryd.f3 rfl rfl rfl rfl rfl rfl rfl ⟨rfl, rfl, rfl, rfl, rfl⟩ rfl rfl rfl rfl rfl (by kernel_rfl) Tryd.func3 (by kernel_rfl)
    (of_decide_eq_true (by kernel_rfl)) (by unfold Func.isWrapper; first | (rw [if_pos (by decide +kernel)]; kernel_rfl) | (rw [if_neg (by decide +kernel)]; exact ⟨rfl, rfl⟩))
    (fun os started H enc _ => known_lifted known_pure os started H enc)

theorem screen_known_holds : Rows.ScreenKnownCardSaid :=
  Claim7.holds_tied_plain_at .later [] [.data, .data] true (true, "705957de36b36c3598fda81f9d56006a2f636c4812c72a1772f2aa96b3296aa4") false
    known_row (fun _ h => by cases h) (by kernel_rfl) (fun _ h => by cases h) screenKnown_row_tie rfl ⟨rfl, rfl⟩ (by kernel_rfl) rfl
    (fun f fn hf hfn => by
      obtain rfl : f = 3 := Option.some.inj ((show Tryd.prog.funcNamed "oriel/oriellaw17.ScreenKnown" = some 3 by kernel_rfl).symm.trans hf) |>.symm
      obtain rfl : fn = Tryd.f3 := (Option.some.inj (Tryd.func3.symm.trans hfn)).symm
      exact ⟨by kernel_rfl, fun j t ht => by
        rw [Tryd.params3] at ht
        simp at ht⟩)
    (by kernel_rfl)
end Go.Proofs.YtfadcigdmddndaaDoor
