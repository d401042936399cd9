-- Written by a program of this session (wip/prx.py) out of the translation; Lean checks it.
import Derived.Test.YtckdcaidhpjjaaaRowNumBack
import Derived.Test.YtckdcaidhpjjaaaPureNumBack
namespace Go.Proofs.Ytckdcaidhpjjaaa
/-- The law registrarlaw01_NumBack, for every input. -/
theorem numBack_holds : Rows.NumBackSaid := numBack.over Pure.NumBack
#print axioms numBack_holds
end Go.Proofs.Ytckdcaidhpjjaaa
