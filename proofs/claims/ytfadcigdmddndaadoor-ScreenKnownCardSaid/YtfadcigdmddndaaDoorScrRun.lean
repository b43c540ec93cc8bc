/- ScreenKnown, run. -/
import Derived.Test.YtfadcigdmddndaaDoorShZe
import Derived.Test.YtfadcigdmddndaaDoorScrTab
import Derived.Test.YtfadcigdmddndaaDoorProg
import Derived.KernelRfl
set_option linter.unusedVariables false
set_option linter.unusedSimpArgs false
namespace Go.SH
open Go.Proofs

theorem screen_known_run : toldV (Y Tryd.prog scrG 100000 (.fn 3 [] .nil 0 0)) = some (.bool true) := by kernel_rfl
theorem screen_known_run' (E : Env) (hp : E.P = Tryd.prog) (hg : E.G = scrG) : toldV (Y E.P E.G 100000 (.fn 3 [] .nil 0 0)) = some (.bool true) := by rw [hp, hg]; exact screen_known_run
end Go.SH
