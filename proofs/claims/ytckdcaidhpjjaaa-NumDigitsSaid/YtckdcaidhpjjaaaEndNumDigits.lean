-- Written by a program of this session (wip/prx.py) out of the translation; Lean checks it.
import Derived.Test.YtckdcaidhpjjaaaRowNumDigits
import Derived.Test.YtckdcaidhpjjaaaPureNumDigits
namespace Go.Proofs.Ytckdcaidhpjjaaa
/-- The law registrarlaw01_NumDigits, for every input. -/
theorem numDigits_holds : Rows.NumDigitsSaid := numDigits.over Pure.NumDigits
#print axioms numDigits_holds
end Go.Proofs.Ytckdcaidhpjjaaa
