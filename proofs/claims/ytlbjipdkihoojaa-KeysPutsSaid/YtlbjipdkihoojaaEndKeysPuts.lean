-- Written by a program of this session (wip/prx.py) out of the translation; Lean checks it.
import Derived.Test.YtlbjipdkihoojaaRowKeysPuts
import Derived.Test.YtlbjipdkihoojaaPureKeysPuts
namespace Go.Proofs.Ytlbjipdkihoojaa
/-- The law registrarlaw04_KeysPuts, for every input. -/
theorem keysPuts_holds : Rows.KeysPutsSaid := keysPuts.over Pure.KeysPuts
#print axioms keysPuts_holds
end Go.Proofs.Ytlbjipdkihoojaa
