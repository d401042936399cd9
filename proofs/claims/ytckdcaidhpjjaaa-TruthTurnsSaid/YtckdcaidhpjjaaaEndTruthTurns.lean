-- Written by a program of this session (wip/prx.py) out of the translation; Lean checks it.
import Derived.Test.YtckdcaidhpjjaaaRowTruthTurns
import Derived.Test.YtckdcaidhpjjaaaPureTruthTurns
namespace Go.Proofs.Ytckdcaidhpjjaaa
/-- The law registrarlaw02_TruthTurns, for every input. -/
theorem truthTurns_holds : Rows.TruthTurnsSaid := truthTurns.over Pure.TruthTurns
#print axioms truthTurns_holds
end Go.Proofs.Ytckdcaidhpjjaaa
