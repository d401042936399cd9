/- A list of truths comes to what its two parts come to, put together, for lists of at most 500 each; no condition. -/
import Derived.Test.YtckdcaidhpjjaaaStTruthParts
import Derived.Test.YtckdcaidhpjjaaaTruthMore
namespace Go.Proofs.Ytckdcaidhpjjaaa.Pure
open Go.RowKit Go.Proofs.Ytckdcaidhpjjaaa.Q Go.Proofs.YtckdcaidhpjjaaaW.PrintWords Go.Proofs.Ytckdcaidhpjjaaa.Aux Go.Proofs.Ytckdcaidhpjjaaa.Truth Go.Proofs.Ytckdcaidhpjjaaa.Open

theorem parts_works (l m : List Int) : Ev (fun k => registrarlaw02_TruthParts.j0 k l m true) true := by
  refine Ev.step (fun k => registrarlaw02_TruthParts.j0.eq_2 ..) ?_
  refine ev_pos rfl ?_
  exact Ev.bind works_f (Ev.now _)

theorem TruthParts : registrarlaw02_TruthParts.Pure := by
  intro l m _ _
  refine Ev.rounds (g := fun k => registrarlaw02_TruthParts.f k l m) ?_
  unfold registrarlaw02_TruthParts.f
  by_cases h : (l.length : Int) > 500
  · exact ev_pos h (parts_works l m)
  · refine ev_neg h ?_
    by_cases h2 : (m.length : Int) > 500
    · rw [decide_eq_true h2]
      exact parts_works l m
    · rw [decide_eq_false h2]
      have hl : l.length ≤ 500 := by omega
      have hm : m.length ≤ 500 := by omega
      have ha : ([] ++ l ++ m).length ≤ 140737488355328 := by simp; omega
      refine Ev.step (fun k => registrarlaw02_TruthParts.j0.eq_2 ..) ?_
      refine ev_neg (by decide) ?_
      refine Ev.bind (own_f l hl) ?_
      refine Ev.bind (own_f m hm) ?_
      refine ev_one rfl ?_
      refine ev_pos (by simp; omega) ?_
      refine ev_one rfl ?_
      refine ev_pos (by simp; omega) ?_
      refine ev_one rfl ?_
      refine Ev.bind (and_cv _ ha) ?_
      refine Ev.bind (and_cv l (by omega)) ?_
      refine Ev.bind (and_cv m (by omega)) ?_
      refine Ev.bind (and_cv _ (by simp)) ?_
      refine ev_pos (by rw [List.nil_append]; exact cv_parts 0 (.inl rfl) l m) ?_
      refine Ev.bind (or_cv _ ha) ?_
      refine Ev.bind (or_cv l (by omega)) ?_
      refine Ev.bind (or_cv m (by omega)) ?_
      refine Ev.bind (or_cv _ (by simp)) ?_
      refine ev_pos (by rw [List.nil_append]; exact cv_parts 1 (.inr rfl) l m) ?_
      exact Ev.bind works_f (Ev.now _)

end Go.Proofs.Ytckdcaidhpjjaaa.Pure
