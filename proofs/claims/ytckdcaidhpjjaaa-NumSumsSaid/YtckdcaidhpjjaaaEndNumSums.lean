-- Written by a program of this session (wip/prx.py) out of the translation; Lean checks it.
import Derived.Test.YtckdcaidhpjjaaaRowNumSums
import Derived.Test.YtckdcaidhpjjaaaPureNumSums
namespace Go.Proofs.Ytckdcaidhpjjaaa
/-- The law registrarlaw01_NumSums, for every input. -/
theorem numSums_holds : Rows.NumSumsSaid := numSums.over Pure.NumSums
#print axioms numSums_holds
end Go.Proofs.Ytckdcaidhpjjaaa
