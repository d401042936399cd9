/- What is not so of all is not so of one, the order is nothing, and a truth comes back from its value, for lists of at most 500; no condition. -/
import Derived.Test.YtckdcaidhpjjaaaStTruthTurns
import Derived.Test.YtckdcaidhpjjaaaTruthMore
namespace Go.Proofs.Ytckdcaidhpjjaaa.Pure
open Go.RowKit Go.Proofs.Ytckdcaidhpjjaaa.Q Go.Proofs.YtckdcaidhpjjaaaW.PrintWords Go.Proofs.Ytckdcaidhpjjaaa.Aux Go.Proofs.Ytckdcaidhpjjaaa.Truth Go.Proofs.Ytckdcaidhpjjaaa.Open

theorem turns_j (l : List Int) (hl : l.length ≤ 500) : Ev (fun k => registrarlaw02_TruthTurns.j1 k l (l.map nt) l.reverse false) true := by
  refine Ev.step (fun k => registrarlaw02_TruthTurns.j1.eq_2 ..) ?_
  refine ev_neg (by decide) ?_
  refine Ev.bind (and_cv l (by omega)) ?_
  refine ev_one (nt_f _) ?_
  refine Ev.bind (or_cv _ (by simp; omega)) ?_
  refine ev_pos (cv_nt 0 (.inl rfl) l) ?_
  refine Ev.bind (or_cv l (by omega)) ?_
  refine ev_one (nt_f _) ?_
  refine Ev.bind (and_cv _ (by simp; omega)) ?_
  refine ev_pos (cv_nt 1 (.inr rfl) l) ?_
  refine Ev.bind (and_cv _ (by simp; omega)) ?_
  refine ev_pos (cv_reverse 0 l).symm ?_
  refine Ev.bind (or_cv _ (by simp; omega)) ?_
  refine ev_pos (cv_reverse 1 l).symm ?_
  exact Ev.bind works_f (Ev.now _)

theorem turns_end (l : List Int) (hl : l.length ≤ 500) (a : Int) : Ev (fun k => registrarlaw02_TruthTurns.l0 k a l (l.map nt) l.reverse (l.length : Int)) true := by
  refine Ev.step (fun k => registrarlaw02_TruthTurns.l0.eq_2 ..) ?_
  refine ev_neg (by omega) ?_
  have hj := turns_j l hl
  by_cases h0 : a = 0
  · subst h0
    exact hj
  · by_cases h1 : a = 1
    · subst h1
      exact hj
    · refine ev_one (a := (0, 0, ⟨#[]⟩)) (by unfold truth_Truth_Value.f; rw [if_neg h0, if_neg h1]) ?_
      refine ev_one (a := (2, 0)) rfl ?_
      refine ev_pos rfl ?_
      refine ev_one (norm_f a) ?_
      refine ev_pos (by simp [norm, h0, h1]) ?_
      exact hj

theorem turns_l (l : List Int) (hl : l.length ≤ 500) (a : Int) (d : Nat) : ∀ i : Nat, i + d = l.length →
    Ev (fun k => registrarlaw02_TruthTurns.l0 k a l ((l.take i).map nt) (l.reverse.take i) (i : Int)) true := by
  induction d with
  | zero =>
    intro i hi
    obtain rfl : i = l.length := by omega
    have h := turns_end l hl a
    rwa [List.take_length, List.take_of_length_le (by simp)]
  | succ d ih =>
    intro i hi
    have hlt : i < l.length := by omega
    have hr : rd l (i : Int) = l[i] := by simp [rd, List.getD_eq_getElem?_getD, hlt]
    have e1 : wrap64 (wrap64 ((l.length : Int) - 1) - (i : Int)) = ((l.length - 1 - i : Nat) : Int) := by
      rw [wrap_in (x := (l.length : Int) - 1) (by omega) (by omega), wrap_in (by omega) (by omega)]
      omega
    have hb : l.length - 1 - i < l.length := by omega
    have hr2 : rd l ((l.length - 1 - i : Nat) : Int) = l[l.length - 1 - i] := by simp [rd, List.getD_eq_getElem?_getD, hb]
    have t1 : (l.take i).map nt ++ [nt l[i]] = (l.take (i + 1)).map nt := by
      rw [List.take_succ_eq_append_getElem hlt, List.map_append]
      rfl
    have hlt2 : i < l.reverse.length := by simpa using hlt
    have t2 : l.reverse.take i ++ [l[l.length - 1 - i]] = l.reverse.take (i + 1) := by
      rw [List.take_succ_eq_append_getElem hlt2, List.getElem_reverse]
    refine Ev.step (fun k => registrarlaw02_TruthTurns.l0.eq_2 ..) ?_
    refine ev_pos (by omega) ?_
    refine ev_pos (by omega) ?_
    refine ev_one (nt_f _) ?_
    refine ev_pos (by simp; omega) ?_
    rw [e1, hr2, hr]
    refine ev_pos (by omega) ?_
    refine ev_pos (by omega) ?_
    refine ev_pos (by simp; omega) ?_
    rw [t1, t2, wrap_next hlt (by omega)]
    exact ih (i + 1) (by omega)

theorem TruthTurns : registrarlaw02_TruthTurns.Pure := by
  intro l a _ _
  refine Ev.rounds (g := fun k => registrarlaw02_TruthTurns.f k l a) ?_
  unfold registrarlaw02_TruthTurns.f
  by_cases h : (l.length : Int) > 500
  · exact ev_pos h (Ev.bind works_f (Ev.now _))
  · refine ev_neg h ?_
    have hl : l.length ≤ 500 := by omega
    refine Ev.bind (own_f l hl) ?_
    exact turns_l l hl a l.length 0 (by omega)

end Go.Proofs.Ytckdcaidhpjjaaa.Pure
