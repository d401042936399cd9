-- Written by a program of this session (wip/prx.py) out of the translation; Lean checks it.
import Derived.Test.YtlbjipdkihoojaaRowRowsBack
import Derived.Test.YtlbjipdkihoojaaPureRowsBack
namespace Go.Proofs.Ytlbjipdkihoojaa
/-- The law registrarlaw05_RowsBack, for every input. -/
theorem rowsBack_holds : Rows.RowsBackSaid := rowsBack.over Pure.RowsBack
#print axioms rowsBack_holds
end Go.Proofs.Ytlbjipdkihoojaa
