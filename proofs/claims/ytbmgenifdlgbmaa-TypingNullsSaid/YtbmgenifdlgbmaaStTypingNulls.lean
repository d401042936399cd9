-- Written by a program of this session (wip/prx.py) out of the translation; Lean checks it.
import Derived.Test.YtbmgenifdlgbmaaQ7
import Derived.Test.YtbmgenifdlgbmaaQOpen
namespace Go.Proofs.Ytbmgenifdlgbmaa.Q
open Go.RowKit Go.Proofs.YtbmgenifdlgbmaaW.PrintWords Go.Proofs.Ytbmgenifdlgbmaa.Open
/-- THE PURE STATEMENT of registrarlaw15_TypingNulls. -/
def registrarlaw15_TypingNulls.Pure : Prop := ∀ (x0 : S26) (x1 : List Int) (x2 : Int), ok26 x0 → (fun xs => xs.length ≤ maxLen ∧ ∀ x ∈ xs, (fun n => (Lit.int .i64 n).wf = true) x) x1 → (fun n => (Lit.int .u8 n).wf = true) x2 → ∃ k, registrarlaw15_TypingNulls.f k x0.f0 x0.f1 x0.f2.f0 x0.f2.f1 x0.f2.f2 x0.f3 x0.f4 x1 x2 = some true
end Go.Proofs.Ytbmgenifdlgbmaa.Q
