-- Written by a program of this session (wip/prx.py) out of the translation; Lean checks it.
import Derived.Test.YtckdcaidhpjjaaaQ6
import Derived.Test.YtckdcaidhpjjaaaQOpen
namespace Go.Proofs.Ytckdcaidhpjjaaa.Q
open Go.RowKit Go.Proofs.YtckdcaidhpjjaaaW.PrintWords Go.Proofs.Ytckdcaidhpjjaaa.Open
/-- THE PURE STATEMENT of registrarlaw01_NumBack. -/
def registrarlaw01_NumBack.Pure : Prop := ∀ (x0 : Int) (x1 : Int) (x2 : ByteArray), (fun n => (Lit.int .i64 n).wf = true) x0 → (fun n => (Lit.int .i64 n).wf = true) x1 → (fun s => s.size ≤ maxLen) x2 → ∃ k, registrarlaw01_NumBack.f k x0 x1 x2 = some true
end Go.Proofs.Ytckdcaidhpjjaaa.Q
