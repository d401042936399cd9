-- Written by a program of this session (wip/prx.py) out of the translation; Lean checks it.
import Derived.Test.YtlbjipdkihoojaaQ0
import Derived.Test.YtlbjipdkihoojaaOpen
namespace Go.Proofs.Ytlbjipdkihoojaa.Q
open Go.RowKit Go.Proofs.YtlbjipdkihoojaaW.PrintWords Go.Proofs.Ytlbjipdkihoojaa.Open
set_option linter.unusedVariables false
def ok45 (x : S45) : Prop := (fun n => (Lit.int .i64 n).wf = true) x.f0 ∧ (fun n => (Lit.int .i64 n).wf = true) x.f1 ∧ (fun s => s.size ≤ maxLen) x.f2
theorem open45 : Opens Try.prog 45 k45 ok45 :=
  Opens.struct (fun x : S45 => (x.f0, x.f1, x.f2)) (fun a => (⟨a.1, a.2.1, a.2.2⟩ : S45)) (fun _ => rfl) Try.underlying45 (by kernel_rfl) (fun m => (Fields.cons rfl (OpensF.int Try.underlying3 (by kernel_rfl) m) (Fields.cons rfl (OpensF.int Try.underlying3 (by kernel_rfl) m) (Fields.last rfl (OpensF.string Try.underlying9 (by kernel_rfl) m)))))
def ok24 (x : S24) : Prop := (fun n => (Lit.int .i64 n).wf = true) x.f0 ∧ (fun xs => xs.length ≤ maxLen ∧ ∀ x ∈ xs, ok45 x) x.f1
theorem open24 : Opens Try.prog 24 k24 ok24 :=
  Opens.struct (fun x : S24 => (x.f0, x.f1)) (fun a => (⟨a.1, a.2⟩ : S24)) (fun _ => rfl) Try.underlying24 (by kernel_rfl) (fun m => (Fields.cons rfl (OpensF.int Try.underlying3 (by kernel_rfl) m) (Fields.last rfl (OpensF.slice Try.underlying22 (by kernel_rfl) (open45 m)))))
end Go.Proofs.Ytlbjipdkihoojaa.Q
