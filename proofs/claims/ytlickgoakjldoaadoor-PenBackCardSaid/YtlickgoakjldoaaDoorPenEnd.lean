/- The cards, from the plain laws. -/
import Derived.Test.YtlickgoakjldoaaDoorPenHarn
import Derived.Test.YtlickgoakjldoaaDoorTie
import Derived.Test.YtlickgoakjldoaaDoorCards
import Derived.SevenTiedAt
set_option linter.unusedVariables false
set_option linter.unusedSimpArgs false
namespace Go.Proofs.YtlickgoakjldoaaDoor
open Go Go.SH

theorem one_row (hlaw : ∀ a b c n, I64 a → I64 b → I64 c → I64 n → oriellaw12_PenOne a b c n = some true) : Rows.PenOneSaid :=
  OpenClaim.holds_of_wide 7 Tryd.f7 rfl rfl rfl rfl rfl rfl rfl ⟨rfl, rfl, rfl, rfl, rfl⟩ rfl rfl rfl rfl rfl (by kernel_rfl) Tryd.func7 (by kernel_rfl)
    (of_decide_eq_true (by kernel_rfl)) (by unfold Func.isWrapper; first | (rw [if_pos (by decide +kernel)]; kernel_rfl) | (rw [if_neg (by decide +kernel)]; exact ⟨rfl, rfl⟩))
    (fun os started H enc _ => one_lifted hlaw os started H enc)

theorem one_card (hlaw : ∀ a b c n, I64 a → I64 b → I64 c → I64 n → oriellaw12_PenOne a b c n = some true) : Rows.PenOneCardSaid :=
  Claim7.holds_tied_plain_at .later [] [.data, .data, .data] true (true, "69c4e3b365d7a365fab2e8e1414c33d48e738b14cf114a40a00fcccf6801c382") false
    (one_row hlaw) (fun _ h => by cases h) (by kernel_rfl) (fun _ h => by cases h) penOne_row_tie rfl ⟨rfl, rfl⟩ (by kernel_rfl) rfl
    (fun f fn hf hfn => by
      obtain rfl : f = 7 := Option.some.inj ((show Tryd.prog.funcNamed "oriel/oriellaw12.PenOne" = some 7 by kernel_rfl).symm.trans hf) |>.symm
      obtain rfl : fn = Tryd.f7 := (Option.some.inj (Tryd.func7.symm.trans hfn)).symm
      exact ⟨by kernel_rfl, fun j t ht => by
        rw [Tryd.params7] at ht
        have hm : t ∈ [23, 3] := by simpa using Array.mem_of_getElem? ht
        have hall : ([23, 3].all fun u => !Tryd.prog.wantsStandIn u) = true := by kernel_rfl
        exact (show Tryd.prog.wantsStandIn t = false by simpa using List.all_eq_true.1 hall t hm)⟩)
    (by kernel_rfl)
end Go.Proofs.YtlickgoakjldoaaDoor
