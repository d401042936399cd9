/- Words and contracts: a plain machine over the model, and what the functions that a law reaches come to, each for every input that its theorem names. -/
import Derived.Test.YtfkkajibaeppbaaK6
namespace Go.Proofs.Ytfkkajibaeppbaa.D
set_option linter.unusedVariables false
set_option linter.unusedSimpArgs false
open Go Go.Proofs.Ytfkkajibaeppbaa.D.Pm
theorem heapNone_law (a : HAct) (h : wfHAct a) : Is Try.prog 9 [.g (eHA a)] (vB true) := heapNone_law0 a trivial
end Go.Proofs.Ytfkkajibaeppbaa.D
