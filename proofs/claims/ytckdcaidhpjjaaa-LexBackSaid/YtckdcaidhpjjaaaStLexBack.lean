-- Written by a program of this session (wip/prx.py) out of the translation; Lean checks it.
import Derived.Test.YtckdcaidhpjjaaaQ4
import Derived.Test.YtckdcaidhpjjaaaQOpen
namespace Go.Proofs.Ytckdcaidhpjjaaa.Q
open Go.RowKit Go.Proofs.YtckdcaidhpjjaaaW.PrintWords Go.Proofs.Ytckdcaidhpjjaaa.Open
/-- THE PURE STATEMENT of registrarlaw09_LexBack. -/
def registrarlaw09_LexBack.Pure : Prop := ∀ (x0 : ByteArray), (fun s => s.size ≤ maxLen) x0 → ∃ k, registrarlaw09_LexBack.f k x0 = some true
end Go.Proofs.Ytckdcaidhpjjaaa.Q
