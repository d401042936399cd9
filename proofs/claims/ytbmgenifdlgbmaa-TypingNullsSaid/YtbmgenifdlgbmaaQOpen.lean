-- Written by a program of this session (wip/prx.py) out of the translation; Lean checks it.
import Derived.Test.YtbmgenifdlgbmaaQ0
import Derived.Test.YtbmgenifdlgbmaaOpen
namespace Go.Proofs.Ytbmgenifdlgbmaa.Q
open Go.RowKit Go.Proofs.YtbmgenifdlgbmaaW.PrintWords Go.Proofs.Ytbmgenifdlgbmaa.Open
set_option linter.unusedVariables false
def ok23 (x : S23) : Prop := (fun n => (Lit.int .i64 n).wf = true) x.f0 ∧ (fun n => (Lit.int .i64 n).wf = true) x.f1 ∧ (fun s => s.size ≤ maxLen) x.f2
theorem open23 : Opens Try.prog 23 k23 ok23 :=
  Opens.struct (fun x : S23 => (x.f0, x.f1, x.f2)) (fun a => (⟨a.1, a.2.1, a.2.2⟩ : S23)) (fun _ => rfl) Try.underlying23 (by kernel_rfl) (fun m => (Fields.cons rfl (OpensF.int Try.underlying3 (by kernel_rfl) m) (Fields.cons rfl (OpensF.int Try.underlying3 (by kernel_rfl) m) (Fields.last rfl (OpensF.string Try.underlying9 (by kernel_rfl) m)))))
def okn26 : Nat → S26 → Prop
  | 0, _ => False
  | n + 1, x => (fun n => (Lit.int .i64 n).wf = true) x.f0 ∧ (fun n => (Lit.int .i64 n).wf = true) x.f1 ∧ ok23 x.f2 ∧ (fun s => s.size ≤ maxLen) x.f3 ∧ (fun xs => xs.length ≤ maxLen ∧ ∀ x ∈ xs, okn26 n x) x.f4
def ok26 (x : S26) : Prop := ∃ n, okn26 n x
theorem open26 : Opens Try.prog 26 k26 ok26 := by
  refine Opens.fix F26 7 [26] sz26 (Kd.upto_E sub26) okn26 (by kernel_rfl) ?_
  rintro m d o h rfl
  exact OpensF.struct (fun x : S26 => (x.f0, x.f1, x.f2, x.f3, x.f4)) (fun a => (⟨a.1, a.2.1, a.2.2.1, a.2.2.2.1, a.2.2.2.2⟩ : S26)) (fun _ => rfl) Try.underlying26 (by rw [show Try.prog.cellsOf 26 = 7 from by kernel_rfl]; rfl) (Fields.cons rfl (OpensF.int Try.underlying3 (by kernel_rfl) m) (Fields.cons rfl (OpensF.int Try.underlying3 (by kernel_rfl) m) (Fields.cons rfl (open23 m) (Fields.cons rfl (OpensF.string Try.underlying9 (by kernel_rfl) m) (Fields.last rfl (OpensF.slice Try.underlying24 (by kernel_rfl) h))))))
end Go.Proofs.Ytbmgenifdlgbmaa.Q
