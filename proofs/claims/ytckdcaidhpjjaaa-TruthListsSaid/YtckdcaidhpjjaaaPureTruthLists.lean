/- What any list of at most 500 truths comes to, by And and by Or, is what the reference says; no condition. -/
import Derived.Test.YtckdcaidhpjjaaaStTruthLists
import Derived.Test.YtckdcaidhpjjaaaTruth
namespace Go.Proofs.Ytckdcaidhpjjaaa.Pure
open Go.RowKit Go.Proofs.Ytckdcaidhpjjaaa.Q Go.Proofs.YtckdcaidhpjjaaaW.PrintWords Go.Proofs.Ytckdcaidhpjjaaa.Aux Go.Proofs.Ytckdcaidhpjjaaa.Truth Go.Proofs.Ytckdcaidhpjjaaa.Open

theorem TruthLists : registrarlaw02_TruthLists.Pure := by
  intro l _
  refine Ev.rounds (g := fun k => registrarlaw02_TruthLists.f k l) ?_
  by_cases h : (l.length : Int) > 500
  · refine Ev.congr (f := fun k => (registrarlaw02_works.f k).bind fun t => some t) (fun k => by unfold registrarlaw02_TruthLists.f; rw [if_pos h]) ?_
    exact Ev.bind works_f (Ev.now _)
  · have hl : l.length ≤ 500 := by omega
    unfold registrarlaw02_TruthLists.f
    simp only [if_neg h]
    refine Ev.bind (own_f l hl) ?_
    refine Ev.bind (and_f l (by omega)) ?_
    refine Ev.bind (rand_f l (by omega)) ?_
    refine ev_pos (by rw [come_is 0 (.inl rfl) l 1 (.inl rfl)]; rfl) ?_
    refine Ev.bind (own_f l hl) ?_
    refine Ev.bind (or_f l (by omega)) ?_
    refine Ev.bind (ror_f l (by omega)) ?_
    refine ev_pos (by rw [come_is 1 (.inr rfl) l 0 (.inl rfl)]; rfl) ?_
    exact Ev.bind works_f (Ev.now _)

end Go.Proofs.Ytckdcaidhpjjaaa.Pure
