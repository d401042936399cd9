/- What the lists of truths come to: the loop and the reference's look both come to one plain word, for every list of at most 500; no condition. -/
import Derived.Test.YtckdcaidhpjjaaaQ3
import Derived.Test.YtckdcaidhpjjaaaAux
namespace Go.Proofs.Ytckdcaidhpjjaaa.Truth
open Go.RowKit Go.Proofs.Ytckdcaidhpjjaaa.Q Go.Proofs.YtckdcaidhpjjaaaW.PrintWords Go.Proofs.YtckdcaidhpjjaaaW.PrintLast
open Go.Proofs.Ytckdcaidhpjjaaa.Aux

/-- what the loop comes to, from a place on -/
def come (w : Int) : Int → List Int → Int
  | out, [] => out
  | out, a :: t => if a = w then w else if a = 1 - w then come w out t else come w 2 t

theorem not_of {w : Int} (hw : w = 0 ∨ w = 1) : truth_Truth_Not.f w = some (1 - w) := by
  rcases hw with rfl | rfl <;> rfl

theorem come_l (w : Int) (hw : w = 0 ∨ w = 1) (suf : List Int) : ∀ (pre : List Int) (out : Int), (pre ++ suf).length ≤ 140737488355328 →
    Ev (fun k => truth_come.l0 k w out (pre ++ suf) ((pre ++ suf).length : Int) (pre.length : Int)) (come w out suf) := by
  induction suf with
  | nil =>
    intro pre out hl
    refine Ev.step (f := fun _ => some out) (fun k => ?_) (Ev.now _)
    simp only [truth_come.l0]
    rw [if_neg (by simp)]
  | cons a t ih =>
    intro pre out hl
    have hlen : (pre ++ a :: t).length = pre.length + t.length + 1 := by simp; omega
    have hn : ((pre.length : Nat) : Int) + 1 = ((pre ++ [a]).length : Int) := by simp
    have e : pre ++ a :: t = (pre ++ [a]) ++ t := by simp
    have hwr : wrap64 ((pre.length : Int) + 1) = ((pre ++ [a]).length : Int) := by rw [← hn]; exact wrap_in (by omega) (by omega)
    have hr := rd_mid pre a t
    have key : ∀ o : Int, Ev (fun k => truth_come.l0 k w o (pre ++ a :: t) ((pre ++ a :: t).length : Int) (wrap64 ((pre.length : Int) + 1))) (come w o t) := by
      intro o
      rw [hwr, e]
      exact ih (pre ++ [a]) o (by simpa using hl)
    by_cases h1 : a = w
    · refine Ev.step (f := fun _ => some w) (fun k => ?_) (by simp only [come]; rw [if_pos h1]; exact Ev.now _)
      simp only [truth_come.l0]
      rw [if_pos (by omega), if_pos (by omega), if_pos (by omega), hr, if_pos h1]
    · by_cases h2 : a = 1 - w
      · refine Ev.step (f := fun k => truth_come.l0 k w out (pre ++ a :: t) ((pre ++ a :: t).length : Int) (wrap64 ((pre.length : Int) + 1))) (fun k => ?_) (by simp only [come]; rw [if_neg h1, if_pos h2]; exact key out)
        simp only [truth_come.l0]
        rw [if_pos (by omega), if_pos (by omega), if_pos (by omega), hr, if_neg h1, not_of hw]
        simp only [Option.bind_some]
        rw [if_pos h2]
      · refine Ev.step (f := fun k => truth_come.l0 k w 2 (pre ++ a :: t) ((pre ++ a :: t).length : Int) (wrap64 ((pre.length : Int) + 1))) (fun k => ?_) (by simp only [come]; rw [if_neg h1, if_neg h2]; exact key 2)
        simp only [truth_come.l0]
        rw [if_pos (by omega), if_pos (by omega), if_pos (by omega), hr, if_neg h1, not_of hw]
        simp only [Option.bind_some]
        rw [if_neg h2]

theorem come_f (w : Int) (hw : w = 0 ∨ w = 1) (l : List Int) (hl : l.length ≤ 140737488355328) : Ev (fun k => truth_come.f k l w) (come w (1 - w) l) := by
  have h := come_l w hw l [] (1 - w) (by simpa using hl)
  refine Ev.congr (fun k => ?_) h
  unfold truth_come.f
  rw [not_of hw]
  rfl

theorem and_f (l : List Int) (hl : l.length ≤ 140737488355328) : Ev (fun k => truth_And.f k l) (come 0 1 l) :=
  Ev.bind (f := fun _ t => some t) (come_f 0 (.inl rfl) l hl) (Ev.now _)
theorem or_f (l : List Int) (hl : l.length ≤ 140737488355328) : Ev (fun k => truth_Or.f k l) (come 1 0 l) :=
  Ev.bind (f := fun _ t => some t) (come_f 1 (.inr rfl) l hl) (Ev.now _)

def norm (a : Int) : Int := if a = 0 then a else if a = 1 then a else 2
theorem norm_f (a : Int) : registrarref02_Norm.f a = some (norm a) := by
  unfold registrarref02_Norm.f norm
  split
  · rfl
  · split <;> rfl

def has (v : Int) : List Int → Bool
  | [] => false
  | a :: t => if norm a = v then true else has v t

theorem has_l (v : Int) (suf : List Int) : ∀ pre : List Int, (pre ++ suf).length ≤ 140737488355328 →
    Ev (fun k => registrarref02_has.l0 k (pre ++ suf) v (pre.length : Int)) (has v suf) := by
  induction suf with
  | nil =>
    intro pre hl
    refine Ev.step (f := fun _ => some false) (fun k => ?_) (Ev.now _)
    simp only [registrarref02_has.l0]
    rw [if_neg (by simp)]
  | cons a t ih =>
    intro pre hl
    have hlen : (pre ++ a :: t).length = pre.length + t.length + 1 := by simp; omega
    have hn : ((pre.length : Nat) : Int) + 1 = ((pre ++ [a]).length : Int) := by simp
    have e : pre ++ a :: t = (pre ++ [a]) ++ t := by simp
    have hwr : wrap64 ((pre.length : Int) + 1) = ((pre ++ [a]).length : Int) := by rw [← hn]; exact wrap_in (by omega) (by omega)
    have hr := rd_mid pre a t
    by_cases h1 : norm a = v
    · refine Ev.step (f := fun _ => some true) (fun k => ?_) (by simp only [has]; rw [if_pos h1]; exact Ev.now _)
      simp only [registrarref02_has.l0]
      rw [if_pos (by omega), if_pos (by omega), hr, norm_f]
      simp only [Option.bind_some]
      rw [if_pos h1]
    · refine Ev.step (f := fun k => registrarref02_has.l0 k ((pre ++ [a]) ++ t) v ((pre ++ [a]).length : Int)) (fun k => ?_) (by simp only [has]; rw [if_neg h1]; exact ih (pre ++ [a]) (by simpa using hl))
      simp only [registrarref02_has.l0]
      rw [if_pos (by omega), if_pos (by omega), hr, norm_f]
      simp only [Option.bind_some]
      rw [if_neg h1, hwr, e]

theorem has_f (v : Int) (l : List Int) (hl : l.length ≤ 140737488355328) : Ev (fun k => registrarref02_has.f k l v) (has v l) :=
  has_l v l [] (by simpa using hl)

def rand (l : List Int) : Int := if has 0 l = true then 0 else if has 2 l = true then 2 else 1
def ror (l : List Int) : Int := if has 1 l = true then 1 else if has 2 l = true then 2 else 0

theorem rand_f (l : List Int) (hl : l.length ≤ 140737488355328) : Ev (fun k => registrarref02_And.f k l) (rand l) := by
  refine Ev.bind (has_f 0 l hl) ?_
  unfold rand
  by_cases h : has 0 l = true
  · simp only [if_pos h]; exact Ev.now _
  · simp only [if_neg h]
    refine Ev.bind (has_f 2 l hl) ?_
    by_cases h2 : has 2 l = true
    · simp only [if_pos h2]; exact Ev.now _
    · simp only [if_neg h2]; exact Ev.now _
theorem ror_f (l : List Int) (hl : l.length ≤ 140737488355328) : Ev (fun k => registrarref02_Or.f k l) (ror l) := by
  refine Ev.bind (has_f 1 l hl) ?_
  unfold ror
  by_cases h : has 1 l = true
  · simp only [if_pos h]; exact Ev.now _
  · simp only [if_neg h]
    refine Ev.bind (has_f 2 l hl) ?_
    by_cases h2 : has 2 l = true
    · simp only [if_pos h2]; exact Ev.now _
    · simp only [if_neg h2]; exact Ev.now _

/-- what both are -/
theorem come_is (w : Int) (hw : w = 0 ∨ w = 1) (l : List Int) : ∀ out, out = 1 - w ∨ out = 2 →
    come w out l = if has w l = true then w else if has 2 l = true then 2 else out := by
  induction l with
  | nil => intro out ho; simp [come, has]
  | cons a t ih =>
    intro out ho
    have h1 := ih out ho
    have h2 := ih 2 (.inr rfl)
    simp only [come, has, norm]
    rcases hw with rfl | rfl <;> by_cases a0 : a = 0 <;> by_cases a1 : a = 1 <;> by_cases a2 : a = 2 <;> simp_all <;> omega

theorem own_l (suf : List Int) : ∀ pre : List Int, (pre ++ suf).length ≤ 500 →
    Ev (fun k => registrarlaw02_own.l0 k (pre ++ suf) pre (pre.length : Int)) (pre ++ suf) := by
  induction suf with
  | nil =>
    intro pre hl
    refine Ev.step (f := fun _ => some pre) (fun k => ?_) (by simpa using Ev.now pre)
    simp only [registrarlaw02_own.l0]
    rw [if_neg (by simp)]
  | cons a t ih =>
    intro pre hl
    have hlen : (pre ++ a :: t).length = pre.length + t.length + 1 := by simp; omega
    have hn : ((pre.length : Nat) : Int) + 1 = ((pre ++ [a]).length : Int) := by simp
    have e : pre ++ a :: t = (pre ++ [a]) ++ t := by simp
    have hwr : wrap64 ((pre.length : Int) + 1) = ((pre ++ [a]).length : Int) := by rw [← hn]; exact wrap_in (by omega) (by omega)
    have hr := rd_mid pre a t
    have := ih (pre ++ [a]) (by simpa using hl)
    rw [e]
    refine Ev.step (fun k => ?_) this
    rw [← e]
    simp only [registrarlaw02_own.l0]
    rw [if_pos (by omega), if_pos (by omega), if_pos (by omega), hr, hwr, e]

theorem own_f (l : List Int) (hl : l.length ≤ 500) : Ev (fun k => registrarlaw02_own.f k l) l := own_l l [] (by simpa using hl)

theorem works_f : Ev (fun k => registrarlaw02_works.f k) true := by
  refine Ev.bind (and_f [1, 2] (by simp)) ?_
  rw [show come 0 1 [1, 2] = 2 from by decide]
  simp only [if_true]
  refine Ev.bind (and_f [0, 2] (by simp)) ?_
  rw [show come 0 1 [0, 2] = 0 from by decide]
  simp only [if_true]
  exact ev_is fun _ => by decide +kernel

end Go.Proofs.Ytckdcaidhpjjaaa.Truth
