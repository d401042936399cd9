-- Written by a program of this session (wip/prx.py) out of the translation; Lean checks it.
import Derived.Test.YtckdcaidhpjjaaaQ0
import Derived.Test.YtckdcaidhpjjaaaOpen
namespace Go.Proofs.Ytckdcaidhpjjaaa.Q
open Go.RowKit Go.Proofs.YtckdcaidhpjjaaaW.PrintWords Go.Proofs.Ytckdcaidhpjjaaa.Open
set_option linter.unusedVariables false
end Go.Proofs.Ytckdcaidhpjjaaa.Q
