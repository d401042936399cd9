-- Written by a program of this session (wip/prx.py) out of the translation; Lean checks it.
import Derived.Test.YtlbjipdkihoojaaQ4
import Derived.Test.YtlbjipdkihoojaaQOpen
namespace Go.Proofs.Ytlbjipdkihoojaa.Q
open Go.RowKit Go.Proofs.YtlbjipdkihoojaaW.PrintWords Go.Proofs.Ytlbjipdkihoojaa.Open
/-- THE PURE STATEMENT of registrarlaw04_KeysStand. -/
def registrarlaw04_KeysStand.Pure : Prop := ∀ (x0 : List (S45)) (x1 : List (S45)), (fun xs => xs.length ≤ maxLen ∧ ∀ x ∈ xs, ok45 x) x0 → (fun xs => xs.length ≤ maxLen ∧ ∀ x ∈ xs, ok45 x) x1 → ∃ k, registrarlaw04_KeysStand.f k x0 x1 = some true
end Go.Proofs.Ytlbjipdkihoojaa.Q
