-- Written by a program of this session (wip/prx.py) out of the translation; Lean checks it.
import Derived.Test.YtbmgenifdlgbmaaRowTypingNulls
import Derived.Test.YtbmgenifdlgbmaaPureTypingNulls
namespace Go.Proofs.Ytbmgenifdlgbmaa
/-- The law registrarlaw15_TypingNulls, for every input. -/
theorem typingNulls_holds : Rows.TypingNullsSaid := typingNulls.over Pure.TypingNulls
#print axioms typingNulls_holds
end Go.Proofs.Ytbmgenifdlgbmaa
