-- Written by a program of this session (wip/prx.py) out of the translation; Lean checks it.
import Derived.Test.YtckdcaidhpjjaaaRowLexBlanks
import Derived.Test.YtckdcaidhpjjaaaPureLexBlanks
namespace Go.Proofs.Ytckdcaidhpjjaaa
/-- The law registrarlaw09_LexBlanks, for every input. -/
theorem lexBlanks_holds : Rows.LexBlanksSaid := lexBlanks.over Pure.LexBlanks
#print axioms lexBlanks_holds
end Go.Proofs.Ytckdcaidhpjjaaa
