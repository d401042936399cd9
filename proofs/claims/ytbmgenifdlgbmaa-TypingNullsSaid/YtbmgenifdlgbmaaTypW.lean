/- The works() of the law: at one number of rounds it is told by the kernel, from there on it stays. -/
import Derived.Test.YtbmgenifdlgbmaaTypF
import Derived.Test.YtbmgenifdlgbmaaStTypingNulls
namespace Go.Proofs.Ytbmgenifdlgbmaa.TypE
open Go Go.RowKit Go.Proofs.Ytbmgenifdlgbmaa.Q Go.Proofs.YtbmgenifdlgbmaaW.PrintWords Go.Proofs.Ytbmgenifdlgbmaa.Aux Go.Proofs.Ytbmgenifdlgbmaa.By

theorem works_at : registrarlaw15_works.f 40 = some true := by kernel_rfl
theorem works_f : Ev (fun k => registrarlaw15_works.f k) true := by
  have h : ∀ m, registrarlaw15_works.f (40 + m) = some true := by
    intro m
    induction m with
    | zero => exact works_at
    | succ m ih => exact registrarlaw15_works.mono (40 + m) _ ih
  refine ⟨40, fun k hk => ?_⟩
  have := h (k - 40)
  rwa [show 40 + (k - 40) = k by omega] at this
end Go.Proofs.Ytbmgenifdlgbmaa.TypE
