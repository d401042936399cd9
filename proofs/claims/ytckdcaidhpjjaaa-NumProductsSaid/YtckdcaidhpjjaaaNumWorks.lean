/- A number's digits, and what each statement about numbers asks for besides. -/
import Derived.Test.YtckdcaidhpjjaaaNum
import Derived.Test.YtckdcaidhpjjaaaStNumSums
import Derived.Lib.Bytes
namespace Go.Proofs.Ytckdcaidhpjjaaa.Num
open Go Go.RowKit Go.Proofs.Ytckdcaidhpjjaaa.Q Go.Proofs.YtckdcaidhpjjaaaW.PrintWords Go.Proofs.Ytckdcaidhpjjaaa.Aux

theorem digits_f {a : Int} (ha : in64 a) : num_Digits.f a = some (strOfNums (X.digI a)) := if_pos ha
theorem dig12 : X.digI (-12) = [45, 49, 50] := by
  unfold X.digI
  rw [if_pos (by decide), X.decI_big (by decide), X.decI_small (by decide)]
  rfl
theorem works_f : registrarlaw01_works.f = some true := by
  unfold registrarlaw01_works.f
  rw [over_f (by unfold in64; omega), rest_f, digits_f (by unfold in64; omega), dig12]
  simp only [Option.bind_some]
  rw [if_pos (by decide), if_pos (by decide), if_pos (by decide), if_pos (by decide), Lib.strOfNums_toList]
  rfl

end Go.Proofs.Ytckdcaidhpjjaaa.Num
