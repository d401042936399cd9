-- Written by a program of this session (wip/prx.py) out of the translation; Lean checks it.
import Derived.Test.YtlbjipdkihoojaaQ4
import Derived.Test.YtlbjipdkihoojaaQOpen
namespace Go.Proofs.Ytlbjipdkihoojaa.Q
open Go.RowKit Go.Proofs.YtlbjipdkihoojaaW.PrintWords Go.Proofs.Ytlbjipdkihoojaa.Open
/-- THE PURE STATEMENT of registrarlaw05_RowsCut. -/
def registrarlaw05_RowsCut.Pure : Prop := ∀ (x0 : S24) (x1 : Int) (x2 : Int), ok24 x0 → (fun n => (Lit.int .u16 n).wf = true) x1 → (fun n => (Lit.int .u8 n).wf = true) x2 → ∃ k, registrarlaw05_RowsCut.f k x0.f0 x0.f1 x1 x2 = some true
end Go.Proofs.Ytlbjipdkihoojaa.Q
