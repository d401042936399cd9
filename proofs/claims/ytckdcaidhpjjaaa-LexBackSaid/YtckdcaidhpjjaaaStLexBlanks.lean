-- Written by a program of this session (wip/prx.py) out of the translation; Lean checks it.
import Derived.Test.YtckdcaidhpjjaaaQ3
import Derived.Test.YtckdcaidhpjjaaaQOpen
namespace Go.Proofs.Ytckdcaidhpjjaaa.Q
open Go.RowKit Go.Proofs.YtckdcaidhpjjaaaW.PrintWords Go.Proofs.Ytckdcaidhpjjaaa.Open
/-- THE PURE STATEMENT of registrarlaw09_LexBlanks. -/
def registrarlaw09_LexBlanks.Pure : Prop := ∀ (x0 : ByteArray) (x1 : Int), (fun s => s.size ≤ maxLen) x0 → (fun n => (Lit.int .u8 n).wf = true) x1 → ∃ k, registrarlaw09_LexBlanks.f k x0 x1 = some true
end Go.Proofs.Ytckdcaidhpjjaaa.Q
