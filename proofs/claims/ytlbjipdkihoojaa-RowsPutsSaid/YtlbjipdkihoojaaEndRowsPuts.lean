-- Written by a program of this session (wip/prx.py) out of the translation; Lean checks it.
import Derived.Test.YtlbjipdkihoojaaRowRowsPuts
import Derived.Test.YtlbjipdkihoojaaPureRowsPuts
namespace Go.Proofs.Ytlbjipdkihoojaa
/-- The law registrarlaw05_RowsPuts, for every input. -/
theorem rowsPuts_holds : Rows.RowsPutsSaid := rowsPuts.over Pure.RowsPuts
#print axioms rowsPuts_holds
end Go.Proofs.Ytlbjipdkihoojaa
