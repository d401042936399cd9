-- Written by a program of this session (wip/prx.py) out of the translation; Lean checks it.
import Derived.Test.YtckdcaidhpjjaaaQ5
import Derived.Test.YtckdcaidhpjjaaaQOpen
namespace Go.Proofs.Ytckdcaidhpjjaaa.Q
open Go.RowKit Go.Proofs.YtckdcaidhpjjaaaW.PrintWords Go.Proofs.Ytckdcaidhpjjaaa.Open
/-- THE PURE STATEMENT of registrarlaw01_NumDigits. -/
def registrarlaw01_NumDigits.Pure : Prop := ∀ (x0 : Int) (x1 : ByteArray), (fun n => (Lit.int .i64 n).wf = true) x0 → (fun s => s.size ≤ maxLen) x1 → ∃ k, registrarlaw01_NumDigits.f k x0 x1 = some true
end Go.Proofs.Ytckdcaidhpjjaaa.Q
