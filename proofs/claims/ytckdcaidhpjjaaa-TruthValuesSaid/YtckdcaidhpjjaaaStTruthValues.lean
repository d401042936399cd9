-- Written by a program of this session (wip/prx.py) out of the translation; Lean checks it.
import Derived.Test.YtckdcaidhpjjaaaQ3
import Derived.Test.YtckdcaidhpjjaaaQOpen
namespace Go.Proofs.Ytckdcaidhpjjaaa.Q
open Go.RowKit Go.Proofs.YtckdcaidhpjjaaaW.PrintWords Go.Proofs.Ytckdcaidhpjjaaa.Open
/-- THE PURE STATEMENT of registrarlaw02_TruthValues. -/
def registrarlaw02_TruthValues.Pure : Prop := ∀ (x0 : Int) (x1 : S32), (fun n => (Lit.int .i64 n).wf = true) x0 → ok32 x1 → ∃ k, registrarlaw02_TruthValues.f k x0 x1.f0 x1.f1 x1.f2 = some true
end Go.Proofs.Ytckdcaidhpjjaaa.Q
