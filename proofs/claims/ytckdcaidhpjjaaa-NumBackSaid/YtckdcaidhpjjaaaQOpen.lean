-- Written by a program of this session (wip/prx.py) out of the translation; Lean checks it.
import Derived.Test.YtckdcaidhpjjaaaQ0
import Derived.Test.YtckdcaidhpjjaaaOpen
namespace Go.Proofs.Ytckdcaidhpjjaaa.Q
open Go.RowKit Go.Proofs.YtckdcaidhpjjaaaW.PrintWords Go.Proofs.Ytckdcaidhpjjaaa.Open
set_option linter.unusedVariables false
def ok32 (x : S32) : Prop := (fun n => (Lit.int .i64 n).wf = true) x.f0 ∧ (fun n => (Lit.int .i64 n).wf = true) x.f1 ∧ (fun s => s.size ≤ maxLen) x.f2
theorem open32 : Opens Try.prog 32 k32 ok32 :=
  Opens.struct (fun x : S32 => (x.f0, x.f1, x.f2)) (fun a => (⟨a.1, a.2.1, a.2.2⟩ : S32)) (fun _ => rfl) Try.underlying32 (by kernel_rfl) (fun m => (Fields.cons rfl (OpensF.int Try.underlying3 (by kernel_rfl) m) (Fields.cons rfl (OpensF.int Try.underlying3 (by kernel_rfl) m) (Fields.last rfl (OpensF.string Try.underlying9 (by kernel_rfl) m)))))
end Go.Proofs.Ytckdcaidhpjjaaa.Q
