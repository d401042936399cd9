-- Written by a program of this session (wip/prx.py) out of the translation; Lean checks it.
import Derived.Test.YtlbjipdkihoojaaRowRowsCut
import Derived.Test.YtlbjipdkihoojaaPureRowsCut
namespace Go.Proofs.Ytlbjipdkihoojaa
/-- The law registrarlaw05_RowsCut, for every input. -/
theorem rowsCut_holds : Rows.RowsCutSaid := rowsCut.over Pure.RowsCut
#print axioms rowsCut_holds
end Go.Proofs.Ytlbjipdkihoojaa
