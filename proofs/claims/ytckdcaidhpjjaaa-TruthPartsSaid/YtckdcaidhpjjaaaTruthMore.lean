/- Lists of truths put together, turned round, and taken from behind: what they come to. -/
import Derived.Test.YtckdcaidhpjjaaaTruth
namespace Go.Proofs.Ytckdcaidhpjjaaa.Truth
open Go.RowKit Go.Proofs.Ytckdcaidhpjjaaa.Q Go.Proofs.YtckdcaidhpjjaaaW.PrintWords Go.Proofs.Ytckdcaidhpjjaaa.Aux

/-- what a list comes to -/
def cv (w : Int) (l : List Int) : Int := if has w l = true then w else if has 2 l = true then 2 else 1 - w
theorem come_cv (w : Int) (hw : w = 0 ∨ w = 1) (l : List Int) : come w (1 - w) l = cv w l := come_is w hw l (1 - w) (.inl rfl)
theorem and_cv (l : List Int) (hl : l.length ≤ 140737488355328) : Ev (fun k => truth_And.f k l) (cv 0 l) := by
  have h := and_f l hl
  rwa [show come 0 1 l = cv 0 l from come_cv 0 (.inl rfl) l] at h
theorem or_cv (l : List Int) (hl : l.length ≤ 140737488355328) : Ev (fun k => truth_Or.f k l) (cv 1 l) := by
  have h := or_f l hl
  rwa [show come 1 0 l = cv 1 l from come_cv 1 (.inr rfl) l] at h
theorem has_append (v : Int) (l m : List Int) : has v (l ++ m) = (has v l || has v m) := by
  induction l with
  | nil => simp [has]
  | cons a t ih =>
    simp only [List.cons_append, has, ih]
    by_cases h : norm a = v <;> simp [h]
theorem has_reverse (v : Int) (l : List Int) : has v l.reverse = has v l := by
  induction l with
  | nil => rfl
  | cons a t ih =>
    rw [List.reverse_cons, has_append, ih]
    simp only [has]
    by_cases h : norm a = v <;> cases has v t <;> simp [h]
theorem cv_reverse (w : Int) (l : List Int) : cv w l.reverse = cv w l := by simp only [cv, has_reverse]
theorem cv_parts (w : Int) (hw : w = 0 ∨ w = 1) (l m : List Int) : cv w (l ++ m) = cv w [cv w l, cv w m] := by
  rcases hw with rfl | rfl
  · cases h0 : has 0 l <;> cases h2 : has 2 l <;> cases k0 : has 0 m <;> cases k2 : has 2 m <;> simp [cv, has_append, h0, h2, k0, k2, has, norm]
  · cases h0 : has 1 l <;> cases h2 : has 2 l <;> cases k0 : has 1 m <;> cases k2 : has 2 m <;> simp [cv, has_append, h0, h2, k0, k2, has, norm]
/-- the other one -/
def nt (a : Int) : Int := if a = 0 then 1 else if a = 1 then 0 else 2
theorem nt_f (a : Int) : truth_Truth_Not.f a = some (nt a) := by
  unfold truth_Truth_Not.f nt
  split
  · rfl
  · split <;> rfl
theorem has_nt (v : Int) (hv : v = 0 ∨ v = 1 ∨ v = 2) (l : List Int) : has (nt v) (l.map nt) = has v l := by
  induction l with
  | nil => rfl
  | cons a t ih =>
    simp only [List.map_cons, has, ih]
    have e : (norm (nt a) = nt v) ↔ (norm a = v) := by
      unfold norm nt
      rcases hv with rfl | rfl | rfl <;> by_cases h0 : a = 0 <;> by_cases h1 : a = 1 <;> simp_all
    simp only [e]
theorem cv_nt (w : Int) (hw : w = 0 ∨ w = 1) (l : List Int) : nt (cv w l) = cv (nt w) (l.map nt) := by
  have h2 : has 2 (l.map nt) = has 2 l := has_nt 2 (.inr (.inr rfl)) l
  unfold cv
  rw [has_nt w (by rcases hw with h | h <;> simp [h]), h2]
  rcases hw with rfl | rfl
  · cases h0 : has 0 l <;> cases h2 : has 2 l <;> simp [nt]
  · cases h0 : has 1 l <;> cases h2 : has 2 l <;> simp [nt]
end Go.Proofs.Ytckdcaidhpjjaaa.Truth
