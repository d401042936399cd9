/- Words and contracts: a plain machine over the model, and what the functions that a law reaches come to, each for every input that its theorem names. -/
import Derived.Test.YtbmgenifdlgbmaaC2
namespace Go.Proofs.Ytbmgenifdlgbmaa.D
set_option linter.unusedVariables false
set_option linter.unusedSimpArgs false
open Go Go.Proofs.Ytbmgenifdlgbmaa.D.Pm
set_option maxRecDepth 4000
theorem tableChecks_law (t : Tbl) (_ : wfT t) : Is Try.prog 4 [.g (eT t)] (vB true) := by
  refine Is.of TP Try.func4 rfl rfl (Nat.le_of_ble_eq_true rfl) fun st => Pw.of TP [] ?_
  conv => whnf
  refine Is.callB (fewT_is t) fun b hb => ?_
  cases b <;> conv => whnf
  · refine works14_is.call ?_
    conv => whnf
    exact Fin.old rfl (.refl _)
  have ok := fewT_ok t hb
  have h1 := tcheck_is t ok
  have h2 := rcheck14_is t ok
  generalize checkT t = c at h1 h2
  refine Pw.drw TP mixed (by kernel_rfl) ?_; conv => whnf
  refine Is.draw h1 ?_
  conv => whnf
  refine Is.draw h2 ?_
  conv => whnf
  refine ⟨fun _ => ?_, fun h => absurd rfl h⟩
  conv => whnf
  refine Is.draw works14_is ?_
  conv => whnf
  exact Fin.old rfl (.refl _)
end Go.Proofs.Ytbmgenifdlgbmaa.D
