-- Written by a program of this session (wip/prx.py) out of the translation; Lean checks it.
import Derived.Test.YtlbjipdkihoojaaQ4
import Derived.Test.YtlbjipdkihoojaaQOpen
namespace Go.Proofs.Ytlbjipdkihoojaa.Q
open Go.RowKit Go.Proofs.YtlbjipdkihoojaaW.PrintWords Go.Proofs.Ytlbjipdkihoojaa.Open
/-- THE PURE STATEMENT of registrarlaw04_KeysPuts. -/
def registrarlaw04_KeysPuts.Pure : Prop := ∀ (x0 : List (S45)), (fun xs => xs.length ≤ maxLen ∧ ∀ x ∈ xs, ok45 x) x0 → ∃ k, registrarlaw04_KeysPuts.f k x0 = some true
end Go.Proofs.Ytlbjipdkihoojaa.Q
