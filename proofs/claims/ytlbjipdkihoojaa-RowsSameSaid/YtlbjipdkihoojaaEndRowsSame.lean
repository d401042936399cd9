-- Written by a program of this session (wip/prx.py) out of the translation; Lean checks it.
import Derived.Test.YtlbjipdkihoojaaRowRowsSame
import Derived.Test.YtlbjipdkihoojaaPureRowsSame
namespace Go.Proofs.Ytlbjipdkihoojaa
/-- The law registrarlaw05_RowsSame, for every input. -/
theorem rowsSame_holds : Rows.RowsSameSaid := rowsSame.over Pure.RowsSame
#print axioms rowsSame_holds
end Go.Proofs.Ytlbjipdkihoojaa
