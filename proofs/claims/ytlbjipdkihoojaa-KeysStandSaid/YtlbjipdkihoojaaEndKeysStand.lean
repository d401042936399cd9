-- Written by a program of this session (wip/prx.py) out of the translation; Lean checks it.
import Derived.Test.YtlbjipdkihoojaaRowKeysStand
import Derived.Test.YtlbjipdkihoojaaPureKeysStand
namespace Go.Proofs.Ytlbjipdkihoojaa
/-- The law registrarlaw04_KeysStand, for every input. -/
theorem keysStand_holds : Rows.KeysStandSaid := keysStand.over Pure.KeysStand
#print axioms keysStand_holds
end Go.Proofs.Ytlbjipdkihoojaa
