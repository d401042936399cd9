/- Products and quotients of any two numbers, and what these leave, are what the reference says; no condition. -/
import Derived.Test.YtckdcaidhpjjaaaStNumProducts
import Derived.Test.YtckdcaidhpjjaaaNumTimes
import Derived.Test.YtckdcaidhpjjaaaNumWorks
namespace Go.Proofs.Ytckdcaidhpjjaaa.Pure
open Go Go.RowKit Go.Proofs.Ytckdcaidhpjjaaa.Q Go.Proofs.YtckdcaidhpjjaaaW.PrintWords Go.Proofs.Ytckdcaidhpjjaaa.Aux Go.Proofs.Ytckdcaidhpjjaaa.Num Go.Proofs.Ytckdcaidhpjjaaa.Open

theorem NumProducts : registrarlaw01_NumProducts.Pure := by
  intro a b ha0 hb0
  have ha := in64_wf ha0
  have hb := in64_wf hb0
  refine Ev.rounds (g := fun k => registrarlaw01_NumProducts.f k a b) ?_
  unfold registrarlaw01_NumProducts.f
  refine Ev.bind (times_f ha hb) ?_
  refine ev_one (over_f ha) ?_
  refine ev_one rest_f ?_
  refine Ev.bind (rtimes_f ha hb) ?_
  refine ev_one (rover_f ha) ?_
  refine ev_one (rrest_f ha) ?_
  refine ev_pos rfl (ev_pos rfl (ev_pos rfl (ev_pos rfl (ev_pos rfl (ev_pos rfl ?_)))))
  exact ev_one works_f (Ev.now _)

end Go.Proofs.Ytckdcaidhpjjaaa.Pure
