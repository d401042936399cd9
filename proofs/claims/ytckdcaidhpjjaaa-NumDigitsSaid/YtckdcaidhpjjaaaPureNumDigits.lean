/- Any number's digits, and the number of any text of at most 200 bytes, are what the reference says; no condition. -/
import Derived.Test.YtckdcaidhpjjaaaStNumDigits
import Derived.Test.YtckdcaidhpjjaaaNumRead2
namespace Go.Proofs.Ytckdcaidhpjjaaa.Pure
open Go Go.RowKit Go.Proofs.Ytckdcaidhpjjaaa.Q Go.Proofs.YtckdcaidhpjjaaaW.PrintWords Go.Proofs.Ytckdcaidhpjjaaa.Aux Go.Proofs.Ytckdcaidhpjjaaa.Num Go.Proofs.Ytckdcaidhpjjaaa.Open

theorem NumDigits : registrarlaw01_NumDigits.Pure := by
  intro a s ha0 _
  have ha := in64_wf ha0
  refine Ev.rounds (g := fun k => registrarlaw01_NumDigits.f k a s) ?_
  unfold registrarlaw01_NumDigits.f
  by_cases h : (s.size : Int) > 200
  · exact ev_pos h (ev_one works_f (Ev.now _))
  · refine ev_neg h ?_
    refine Ev.bind (read_f s) ?_
    refine Ev.bind (rread_f s (by omega)) ?_
    refine ev_one (digits_f ha) ?_
    refine ev_one (rdigits_f ha) ?_
    refine ev_pos rfl (ev_pos rfl (ev_pos rfl ?_))
    exact ev_one works_f (Ev.now _)

end Go.Proofs.Ytckdcaidhpjjaaa.Pure
