/- Any row may be or not, and has the bytes that the document says. -/
import Derived.Test.YtlbjipdkihoojaaStRowsPuts
import Derived.Test.YtlbjipdkihoojaaRowsP
namespace Go.Proofs.Ytlbjipdkihoojaa.Pure
set_option linter.unusedVariables false
set_option linter.unusedSimpArgs false
open Go Go.RowKit Go.Proofs.Ytlbjipdkihoojaa.Q Go.Proofs.YtlbjipdkihoojaaW.PrintWords Go.Proofs.Ytlbjipdkihoojaa.Aux Go.Proofs.Ytlbjipdkihoojaa.By Go.Proofs.Ytlbjipdkihoojaa.RowsW Go.Proofs.Ytlbjipdkihoojaa.Open

theorem RowsPuts : registrarlaw05_RowsPuts.Pure := by
  intro x hx
  have h64 : ∀ v ∈ x.f1, in64 v.f1 := fun v hv => in64_wf (hx.2.2 v hv).2.1
  have hn : in64 x.f0 := in64_wf hx.1
  refine Ev.rounds (g := fun k => registrarlaw05_RowsPuts.f k x.f0 x.f1) ?_
  unfold registrarlaw05_RowsPuts.f
  refine Ev.bind (large_f x.f0 x.f1 hx.2.1) ?_
  by_cases h : large x.f1 = true
  · refine ev_pos h ?_
    exact Ev.bind works_f (Ev.now _)
  · refine ev_neg h ?_
    have hl := (large_not h).1
    refine Ev.bind (put_f x.f0 x.f1 hn (by omega) h64) ?_
    refine Ev.bind (rput_f x.f0 x.f1 hn (by omega) h64) ?_
    have := put_len x.f0 x.f1 hn h64
    refine Ev.bind (same_f _ _ (by omega)) ?_
    refine ev_pos (by simp) ?_
    refine ev_pos rfl ?_
    refine Ev.bind (check_f x.f0 x.f1 (by omega)) ?_
    refine Ev.bind (rcheck_f x.f0 x.f1 (by omega)) ?_
    refine ev_pos rfl ?_
    refine Ev.bind (size_f x.f0 x.f1 hn (by omega) h64) ?_
    refine ev_pos rfl ?_
    exact Ev.bind works_f (Ev.now _)
end Go.Proofs.Ytlbjipdkihoojaa.Pure
