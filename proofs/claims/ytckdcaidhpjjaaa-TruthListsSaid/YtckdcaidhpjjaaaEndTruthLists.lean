-- Written by a program of this session (wip/prx.py) out of the translation; Lean checks it.
import Derived.Test.YtckdcaidhpjjaaaRowTruthLists
import Derived.Test.YtckdcaidhpjjaaaPureTruthLists
namespace Go.Proofs.Ytckdcaidhpjjaaa
/-- The law registrarlaw02_TruthLists, for every input. -/
theorem truthLists_holds : Rows.TruthListsSaid := truthLists.over Pure.TruthLists
#print axioms truthLists_holds
end Go.Proofs.Ytckdcaidhpjjaaa
