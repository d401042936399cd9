-- Written by a program of this session (wip/prx.py) out of the translation; Lean checks it.
import Derived.Test.YtckdcaidhpjjaaaRowLexBack
import Derived.Test.YtckdcaidhpjjaaaPureLexBack
namespace Go.Proofs.Ytckdcaidhpjjaaa
/-- The law registrarlaw09_LexBack, for every input. -/
theorem lexBack_holds : Rows.LexBackSaid := lexBack.over Pure.LexBack
#print axioms lexBack_holds
end Go.Proofs.Ytckdcaidhpjjaaa
