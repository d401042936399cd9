/- Any values have the bytes that the document says, or the error. -/
import Derived.Test.YtlbjipdkihoojaaStKeysPuts
import Derived.Test.YtlbjipdkihoojaaKeysGet
namespace Go.Proofs.Ytlbjipdkihoojaa.Pure
set_option linter.unusedVariables false
set_option linter.unusedSimpArgs false
open Go Go.RowKit Go.Proofs.Ytlbjipdkihoojaa.Q Go.Proofs.YtlbjipdkihoojaaW.PrintWords Go.Proofs.Ytlbjipdkihoojaa.Aux Go.Proofs.Ytlbjipdkihoojaa.By Go.Proofs.Ytlbjipdkihoojaa.KeysW Go.Proofs.Ytlbjipdkihoojaa.Open

theorem KeysPuts : registrarlaw04_KeysPuts.Pure := by
  intro x hx
  refine Ev.rounds (g := fun k => registrarlaw04_KeysPuts.f k x) ?_
  unfold registrarlaw04_KeysPuts.f
  refine Ev.bind (large_f x hx.1) ?_
  by_cases h : large x = true
  · refine ev_pos h ?_
    exact Ev.bind works_f (Ev.now _)
  · refine ev_neg h ?_
    have hl := (large_not h).1
    refine Ev.bind (put_f x (by omega)) ?_
    refine Ev.bind (rput_f x (by omega)) ?_
    have := put_len x
    refine Ev.bind (same_f _ _ (by omega)) ?_
    refine ev_pos (by simp) ?_
    refine ev_pos rfl ?_
    exact Ev.bind works_f (Ev.now _)
end Go.Proofs.Ytlbjipdkihoojaa.Pure
