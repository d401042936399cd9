/- Sums and differences of any two numbers, and any number the other way round, are what the reference says; no condition. -/
import Derived.Test.YtckdcaidhpjjaaaStNumSums
import Derived.Test.YtckdcaidhpjjaaaNumWorks
namespace Go.Proofs.Ytckdcaidhpjjaaa.Pure
open Go Go.RowKit Go.Proofs.Ytckdcaidhpjjaaa.Q Go.Proofs.YtckdcaidhpjjaaaW.PrintWords Go.Proofs.Ytckdcaidhpjjaaa.Aux Go.Proofs.Ytckdcaidhpjjaaa.Num Go.Proofs.Ytckdcaidhpjjaaa.Open

theorem NumSums : registrarlaw01_NumSums.Pure := by
  intro a b ha0 hb0
  have ha := in64_wf ha0
  have hb := in64_wf hb0
  unfold registrarlaw01_NumSums.f
  rw [plus_f ha hb, minus_f ha hb, back_f ha, size_f hb, rplus_f ha hb, rminus_f ha hb, rback_f ha, rsize_f hb, works_f]
  simp only [Option.bind_some, if_true]

end Go.Proofs.Ytckdcaidhpjjaaa.Pure
