-- Written by a program of this session (wip/prx.py) out of the translation; Lean checks it.
import Derived.Test.YtckdcaidhpjjaaaRowTruthParts
import Derived.Test.YtckdcaidhpjjaaaPureTruthParts
namespace Go.Proofs.Ytckdcaidhpjjaaa
/-- The law registrarlaw02_TruthParts, for every input. -/
theorem truthParts_holds : Rows.TruthPartsSaid := truthParts.over Pure.TruthParts
#print axioms truthParts_holds
end Go.Proofs.Ytckdcaidhpjjaaa
