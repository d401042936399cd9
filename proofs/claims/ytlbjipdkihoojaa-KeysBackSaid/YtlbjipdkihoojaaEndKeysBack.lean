-- Written by a program of this session (wip/prx.py) out of the translation; Lean checks it.
import Derived.Test.YtlbjipdkihoojaaRowKeysBack
import Derived.Test.YtlbjipdkihoojaaPureKeysBack
namespace Go.Proofs.Ytlbjipdkihoojaa
/-- The law registrarlaw04_KeysBack, for every input. -/
theorem keysBack_holds : Rows.KeysBackSaid := keysBack.over Pure.KeysBack
#print axioms keysBack_holds
end Go.Proofs.Ytlbjipdkihoojaa
