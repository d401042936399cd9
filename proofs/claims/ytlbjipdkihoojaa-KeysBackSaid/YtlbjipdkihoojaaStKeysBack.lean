-- Written by a program of this session (wip/prx.py) out of the translation; Lean checks it.
import Derived.Test.YtlbjipdkihoojaaQ4
import Derived.Test.YtlbjipdkihoojaaQOpen
namespace Go.Proofs.Ytlbjipdkihoojaa.Q
open Go.RowKit Go.Proofs.YtlbjipdkihoojaaW.PrintWords Go.Proofs.Ytlbjipdkihoojaa.Open
/-- THE PURE STATEMENT of registrarlaw04_KeysBack. -/
def registrarlaw04_KeysBack.Pure : Prop := ∀ (x0 : List (S45)) (x1 : List Int), (fun xs => xs.length ≤ maxLen ∧ ∀ x ∈ xs, ok45 x) x0 → (fun xs => xs.length ≤ maxLen ∧ ∀ x ∈ xs, (fun n => (Lit.int .u8 n).wf = true) x) x1 → ∃ k, registrarlaw04_KeysBack.f k x0 x1 = some true
end Go.Proofs.Ytlbjipdkihoojaa.Q
