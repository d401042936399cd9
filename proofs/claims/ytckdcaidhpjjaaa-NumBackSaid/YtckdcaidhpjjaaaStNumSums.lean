-- Written by a program of this session (wip/prx.py) out of the translation; Lean checks it.
import Derived.Test.YtckdcaidhpjjaaaQ4
import Derived.Test.YtckdcaidhpjjaaaQOpen
namespace Go.Proofs.Ytckdcaidhpjjaaa.Q
open Go.RowKit Go.Proofs.YtckdcaidhpjjaaaW.PrintWords Go.Proofs.Ytckdcaidhpjjaaa.Open
/-- THE PURE STATEMENT of registrarlaw01_NumSums. -/
def registrarlaw01_NumSums.Pure : Prop := ∀ (x0 : Int) (x1 : Int), (fun n => (Lit.int .i64 n).wf = true) x0 → (fun n => (Lit.int .i64 n).wf = true) x1 → registrarlaw01_NumSums.f x0 x1 = some true
end Go.Proofs.Ytckdcaidhpjjaaa.Q
