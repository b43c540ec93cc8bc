/- What one number asks of a pen that may be changes bits alone, or one colour alone, or all: the card of PenOne, for every pen and every number. -/
import Derived.Test.YtlickgoakjldoaaDoorPenEnd
import Derived.Test.YtlickgoakjldoaaDoorPenLaw5
set_option linter.unusedVariables false
namespace Go.Proofs.YtlickgoakjldoaaDoor
open Go Go.SH

theorem pen_one_holds : Rows.PenOneCardSaid := one_card fun a b c n _ _ _ _ => PenOne_eq a b c n
end Go.Proofs.YtlickgoakjldoaaDoor
