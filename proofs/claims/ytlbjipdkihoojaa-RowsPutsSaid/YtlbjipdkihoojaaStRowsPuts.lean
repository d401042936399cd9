-- Written by a program of this session (wip/prx.py) out of the translation; Lean checks it.
import Derived.Test.YtlbjipdkihoojaaQ5
import Derived.Test.YtlbjipdkihoojaaQOpen
namespace Go.Proofs.Ytlbjipdkihoojaa.Q
open Go.RowKit Go.Proofs.YtlbjipdkihoojaaW.PrintWords Go.Proofs.Ytlbjipdkihoojaa.Open
/-- THE PURE STATEMENT of registrarlaw05_RowsPuts. -/
def registrarlaw05_RowsPuts.Pure : Prop := ∀ (x0 : S24), ok24 x0 → ∃ k, registrarlaw05_RowsPuts.f k x0.f0 x0.f1 = some true
end Go.Proofs.Ytlbjipdkihoojaa.Q
