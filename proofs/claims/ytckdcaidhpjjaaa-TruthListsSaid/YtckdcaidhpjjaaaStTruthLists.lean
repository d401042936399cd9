-- Written by a program of this session (wip/prx.py) out of the translation; Lean checks it.
import Derived.Test.YtckdcaidhpjjaaaQ2
import Derived.Test.YtckdcaidhpjjaaaQOpen
namespace Go.Proofs.Ytckdcaidhpjjaaa.Q
open Go.RowKit Go.Proofs.YtckdcaidhpjjaaaW.PrintWords Go.Proofs.Ytckdcaidhpjjaaa.Open
/-- THE PURE STATEMENT of registrarlaw02_TruthLists. -/
def registrarlaw02_TruthLists.Pure : Prop := ∀ (x0 : List Int), (fun xs => xs.length ≤ maxLen ∧ ∀ x ∈ xs, (fun n => (Lit.int .i64 n).wf = true) x) x0 → ∃ k, registrarlaw02_TruthLists.f k x0 = some true
end Go.Proofs.Ytckdcaidhpjjaaa.Q
