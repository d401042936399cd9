/- Any truth the other way round, as a value and as a word, and any value's truth, are what the reference says; no condition. -/
import Derived.Test.YtckdcaidhpjjaaaStTruthValues
import Derived.Test.YtckdcaidhpjjaaaTruth
namespace Go.Proofs.Ytckdcaidhpjjaaa.Pure
open Go.RowKit Go.Proofs.Ytckdcaidhpjjaaa.Q Go.Proofs.YtckdcaidhpjjaaaW.PrintWords Go.Proofs.Ytckdcaidhpjjaaa.Aux Go.Proofs.Ytckdcaidhpjjaaa.Truth Go.Proofs.Ytckdcaidhpjjaaa.Open

theorem TruthValues : registrarlaw02_TruthValues.Pure := by
  rintro a v _ _
  refine Ev.rounds (g := fun k => registrarlaw02_TruthValues.f k a v.f0 v.f1 v.f2) ?_
  unfold registrarlaw02_TruthValues.f
  obtain ⟨o, ho, ho2⟩ : ∃ o, truth_Of.f v.f0 v.f1 v.f2 = some o ∧ registrarref02_Of.f v.f0 v.f1 v.f2 = some o := by
    unfold truth_Of.f registrarref02_Of.f
    split
    · exact ⟨_, rfl, rfl⟩
    · split
      · split <;> exact ⟨_, rfl, rfl⟩
      · exact ⟨_, rfl, rfl⟩
  obtain ⟨n, hn, hn2⟩ : ∃ n, truth_Truth_Not.f a = some n ∧ registrarref02_Not.f a = some n := by
    unfold truth_Truth_Not.f registrarref02_Not.f registrarref02_Norm.f
    by_cases h0 : a = 0
    · subst h0; exact ⟨1, rfl, by decide +kernel⟩
    · by_cases h1 : a = 1
      · subst h1; exact ⟨0, rfl, by decide +kernel⟩
      · exact ⟨2, by simp [h0, h1], by simp [h0, h1]⟩
  obtain ⟨x, hx, hx2⟩ : ∃ x, truth_Truth_Value.f a = some x ∧ registrarref02_Value.f a = some x := by
    unfold truth_Truth_Value.f registrarref02_Value.f registrarref02_Norm.f
    by_cases h0 : a = 0
    · subst h0; exact ⟨_, rfl, rfl⟩
    · by_cases h1 : a = 1
      · subst h1; exact ⟨_, rfl, rfl⟩
      · exact ⟨(0, 0, ⟨#[]⟩), by simp [h0, h1], by simp [h0, h1]⟩
  obtain ⟨s, hs, hs2⟩ : ∃ s, truth_Word.f a = some s ∧ registrarref02_Word.f a = some s := by
    unfold truth_Word.f registrarref02_Word.f
    split
    · exact ⟨_, rfl, rfl⟩
    · split <;> exact ⟨_, rfl, rfl⟩
  refine ev_one ho ?_
  refine ev_one ho2 ?_
  refine ev_one hn ?_
  refine ev_one hn2 ?_
  refine ev_pos rfl ?_
  refine ev_one hx ?_
  refine ev_one hx2 ?_
  refine ev_pos (by simp) ?_
  refine ev_one hs ?_
  refine ev_one hs2 ?_
  refine ev_pos rfl ?_
  refine ev_pos rfl ?_
  refine ev_pos rfl ?_
  exact Ev.bind works_f (Ev.now _)

end Go.Proofs.Ytckdcaidhpjjaaa.Pure
