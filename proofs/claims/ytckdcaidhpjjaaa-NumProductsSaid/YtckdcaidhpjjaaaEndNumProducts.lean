-- Written by a program of this session (wip/prx.py) out of the translation; Lean checks it.
import Derived.Test.YtckdcaidhpjjaaaRowNumProducts
import Derived.Test.YtckdcaidhpjjaaaPureNumProducts
namespace Go.Proofs.Ytckdcaidhpjjaaa
/-- The law registrarlaw01_NumProducts, for every input. -/
theorem numProducts_holds : Rows.NumProductsSaid := numProducts.over Pure.NumProducts
#print axioms numProducts_holds
end Go.Proofs.Ytckdcaidhpjjaaa
