-- Written by a program of this session (wip/prx.py) out of the translation; Lean checks it.
import Derived.Test.YtckdcaidhpjjaaaRowTruthValues
import Derived.Test.YtckdcaidhpjjaaaPureTruthValues
namespace Go.Proofs.Ytckdcaidhpjjaaa
/-- The law registrarlaw02_TruthValues, for every input. -/
theorem truthValues_holds : Rows.TruthValuesSaid := truthValues.over Pure.TruthValues
#print axioms truthValues_holds
end Go.Proofs.Ytckdcaidhpjjaaa
