-- Written by a program of this session (wip/prx.py) out of the translation; Lean checks it.
import Derived.Test.YtlbjipdkihoojaaQ4
import Derived.Test.YtlbjipdkihoojaaQOpen
namespace Go.Proofs.Ytlbjipdkihoojaa.Q
open Go.RowKit Go.Proofs.YtlbjipdkihoojaaW.PrintWords Go.Proofs.Ytlbjipdkihoojaa.Open
/-- THE PURE STATEMENT of registrarlaw05_RowsBack. -/
def registrarlaw05_RowsBack.Pure : Prop := ∀ (x0 : S24) (x1 : List Int), ok24 x0 → (fun xs => xs.length ≤ maxLen ∧ ∀ x ∈ xs, (fun n => (Lit.int .u8 n).wf = true) x) x1 → ∃ k, registrarlaw05_RowsBack.f k x0.f0 x0.f1 x1 = some true
end Go.Proofs.Ytlbjipdkihoojaa.Q
