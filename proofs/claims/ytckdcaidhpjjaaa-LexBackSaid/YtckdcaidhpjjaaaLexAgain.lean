/- The texts of tokens, with a blank between each two, are cut into these again: plain words only. -/
import Derived.Test.YtckdcaidhpjjaaaLexLaw
namespace Go.Proofs.Ytckdcaidhpjjaaa.Lex
set_option linter.unusedVariables false
set_option linter.unusedSimpArgs false
open Go Go.RowKit Go.Proofs.Ytckdcaidhpjjaaa.Q Go.Proofs.YtckdcaidhpjjaaaW.PrintWords Go.Proofs.Ytckdcaidhpjjaaa.Aux Go.Proofs.Ytckdcaidhpjjaaa.By

/-- what may be said of a token of a text -/
def Fit (S : List Int) (x : Tok) : Prop := x.2.1 ≠ [] ∧ one x.2.1 = (x.1, x.2.1.length) ∧ x.2.2 + x.2.1.length ≤ S.length ∧ (S.take (x.2.2 + x.2.1.length)).drop x.2.2 = x.2.1
theorem toks_fit (S : List Int) : ∀ (f c : Nat) (l : List Int) (at_ : Nat), S.drop at_ = l → l.length + at_ = S.length → l.length < f → (toks f c l at_).2.2 = 0 → ∃ i e, (toks f c l at_).1 = i ++ [(7, [], e)] ∧ e ≤ S.length ∧ (∀ x ∈ i, Fit S x) ∧ i.length + 1 ≤ c := by
  intro f
  induction f with
  | zero => intro c l at_ _ _ h; omega
  | succ f ih =>
    intro c l at_ hS hl hf
    have hle := cw_le Lex.blank l.length l
    simp only [toks]
    cases hr : l.drop (cw Lex.blank l.length l) with
    | nil =>
      simp only []
      by_cases h0 : c = 0
      · simp [h0]
      · simp only [if_neg h0]
        intro _
        exact ⟨[], _, rfl, by omega, by simp, by simp; omega⟩
    | cons x r =>
      simp only []
      have hrl : (x :: r).length + cw Lex.blank l.length l = l.length := by rw [← hr, List.length_drop]; omega
      have hol := one_le (x :: r)
      have htk := one_take (x :: r)
      obtain ⟨b, hb⟩ : ∃ b, cw Lex.blank l.length l = b := ⟨_, rfl⟩
      rw [hb] at hle hr hrl ⊢
      obtain ⟨⟨kd, n⟩, ho⟩ : ∃ o, one (x :: r) = o := ⟨_, rfl⟩
      rw [ho] at hol htk ⊢
      simp only [] at hol htk ⊢
      by_cases hn : n = 0
      · simp [hn]
      · by_cases h0 : c = 0
        · simp [hn, h0]
        · simp only [if_neg hn, if_neg h0]
          have hd : S.drop (at_ + b + n) = (x :: r).drop n := by rw [← hr, List.drop_drop, ← hS, List.drop_drop]; congr 1; omega
          have hd0 : S.drop (at_ + b) = x :: r := by rw [← hr, ← hS, List.drop_drop]
          have := ih (c - 1) ((x :: r).drop n) (at_ + b + n) hd (by rw [List.length_drop]; omega) (by rw [List.length_drop]; omega)
          obtain ⟨z, hz⟩ : ∃ z, toks f (c - 1) ((x :: r).drop n) (at_ + b + n) = z := ⟨_, rfl⟩
          rw [hz] at this ⊢
          by_cases h2 : z.2.2 = 0
          · simp only [if_pos h2]
            intro _
            obtain ⟨i, e, h3, h4, h5, h6⟩ := this h2
            refine ⟨(kd, (x :: r).take n, at_ + b) :: i, e, by rw [h3]; rfl, h4, ?_, by simp; omega⟩
            intro y hy
            rcases List.mem_cons.1 hy with rfl | hy
            · have hln : ((x :: r).take n).length = n := by rw [List.length_take]; omega
              refine ⟨?_, ?_, ?_, ?_⟩
              · intro h
                simp only [] at h
                rw [h] at hln
                simp at hln
                omega
              · simp only [hln]
                rw [htk hn]
              · simp only [hln]
                omega
              · simp only [hln]
                rw [← List.take_drop, hd0]
            · exact h5 y hy
          · simp only [if_neg h2]
            intro h
            exact absurd h h2
/-- texts with a blank ahead of each -/
def tailJ : List (List Int) → List Int
  | [] => []
  | x :: t => 32 :: (x ++ tailJ t)
/-- texts with a blank between each two -/
def J : List (List Int) → List Int
  | [] => []
  | x :: t => x ++ tailJ t
theorem tailJ_blank : ∀ l, isB (tailJ l)
  | [] => by intro c t h; simp [tailJ] at h
  | x :: t => by
    intro c u h
    simp only [tailJ, List.cons.injEq] at h
    rw [← h.1]
    decide
theorem tailJ_append (t : List (List Int)) (x : List Int) : tailJ (t ++ [x]) = tailJ t ++ 32 :: x := by
  induction t with
  | nil => simp [tailJ]
  | cons y t ih => simp [tailJ, ih]
theorem J_append (t : List (List Int)) (x : List Int) : J (t ++ [x]) = if t = [] then x else J t ++ 32 :: x := by
  cases t with
  | nil => simp [J, tailJ]
  | cons y t => simp [J, tailJ_append]
theorem not_blank (c : Int) (t : List Int) (h : (one (c :: t)).2 ≠ 0) : Lex.blank c = false := by
  rw [Bool.eq_false_iff]
  intro hb
  refine h ?_
  rcases blank_is hb with rfl | rfl
  · cases t <;> simp [one, small, capital, digit, sg, sg1, sg2]
  · cases t <;> simp [one, small, capital, digit, sg, sg1, sg2]
theorem toks_one (x b : List Int) (hb : isB b) (kd : Int) (hx : x ≠ []) (h1 : one x = (kd, x.length)) (f c at_ : Nat) (hc : c ≠ 0) (hz : (toks f (c - 1) b (at_ + x.length)).2.2 = 0) : toks (f + 1) c (x ++ b) at_ = ((kd, x, at_) :: (toks f (c - 1) b (at_ + x.length)).1, 0, 0) := by
  have hl : x.length ≠ 0 := by
    intro h
    exact hx (List.eq_nil_of_length_eq_zero h)
  have h2 := one_next b hb x (by rw [h1]) hx
  rw [h1] at h2
  have h3 : cw Lex.blank (x ++ b).length (x ++ b) = 0 := by
    match x, hx with
    | y :: t, _ =>
      have := not_blank y t (by rw [h1]; exact hl)
      simp [cw, this]
  simp only [toks, h3, List.drop_zero, Nat.add_zero]
  have hne : x ++ b ≠ [] := by
    intro h
    rw [List.append_eq_nil_iff] at h
    exact hx h.1
  have hd : (x ++ b).drop x.length = b := List.drop_left
  have ht : (x ++ b).take x.length = x := List.take_left
  obtain ⟨w, hw⟩ : ∃ w, x ++ b = w := ⟨_, rfl⟩
  rw [hw] at h2 hne hd ht ⊢
  match w, hne with
  | y :: t, _ =>
    simp only [h2, if_neg hl, if_neg hc, hd, ht, if_pos hz]
def pr (t : Tok) : Int × List Int := (t.1, t.2.1)
def Good (x : Tok) : Prop := x.2.1 ≠ [] ∧ one x.2.1 = (x.1, x.2.1.length)
theorem toks_tail : ∀ (i : List Tok) (f c at_ : Nat), (∀ x ∈ i, Good x) → i.length + 1 ≤ c → (tailJ (i.map (·.2.1))).length < f → (toks f c (tailJ (i.map (·.2.1))) at_).2.2 = 0 ∧ (toks f c (tailJ (i.map (·.2.1))) at_).1.map pr = i.map pr ++ [(7, [])]
  | [], 0, c, at_, _, _, hf => by simp at hf
  | [], f + 1, c, at_, _, hc, _ => by
    have : c ≠ 0 := by simp at hc; omega
    simp [tailJ, toks, this, pr]
  | x :: i, 0, c, at_, _, _, hf => by simp at hf
  | x :: i, f + 1, c, at_, hg, hc, hf => by
    have hx := hg x List.mem_cons_self
    simp only [List.map_cons, tailJ] at hf ⊢
    have e : 32 :: (x.2.1 ++ tailJ (i.map (·.2.1))) = [32] ++ (x.2.1 ++ tailJ (i.map (·.2.1))) := rfl
    rw [e, toks_front [32] _ (by simp [Lex.blank]), show ([32] : List Int).length = 1 from rfl]
    simp only [List.length_cons, List.length_append] at hf hc
    have := toks_tail i f (c - 1) (at_ + 1 + x.2.1.length) (fun y hy => hg y (List.mem_cons_of_mem _ hy)) (by omega) (by omega)
    rw [toks_one x.2.1 (tailJ (i.map (·.2.1))) (tailJ_blank _) x.1 hx.1 hx.2 f c _ (by omega) this.1]
    refine ⟨rfl, ?_⟩
    rw [List.map_cons, this.2]
    rfl
theorem toks_again (i : List Tok) (f : Nat) (hg : ∀ x ∈ i, Good x) (hc : i.length + 1 ≤ 120) (hf : (J (i.map (·.2.1))).length < f) : (toks f 120 (J (i.map (·.2.1))) 0).2.2 = 0 ∧ (toks f 120 (J (i.map (·.2.1))) 0).1.map pr = i.map pr ++ [(7, [])] := by
  match i, f with
  | [], f + 1 => simp [J, toks, pr]
  | [], 0 => simp at hf
  | x :: i, 0 => simp at hf
  | x :: i, f + 1 =>
    have hx := hg x List.mem_cons_self
    have hxl : x.2.1.length ≠ 0 := by
      intro h
      exact hx.1 (List.eq_nil_of_length_eq_zero h)
    simp only [List.map_cons, J, List.length_append, List.length_cons] at hf hc ⊢
    have := toks_tail i f (120 - 1) (0 + x.2.1.length) (fun y hy => hg y (List.mem_cons_of_mem _ hy)) (by omega) (by omega)
    rw [toks_one x.2.1 (tailJ (i.map (·.2.1))) (tailJ_blank _) x.1 hx.1 hx.2 f 120 _ (by omega) this.1]
    refine ⟨rfl, ?_⟩
    rw [List.map_cons, this.2]
    rfl
theorem J_length : ∀ (l : List (List Int)) (m : Nat), (∀ x ∈ l, x.length ≤ m) → (tailJ l).length ≤ l.length * (m + 1)
  | [], m, _ => by simp [tailJ]
  | x :: t, m, h => by
    have h1 := J_length t m (fun y hy => h y (List.mem_cons_of_mem _ hy))
    have h2 := h x List.mem_cons_self
    simp only [tailJ, List.length_cons, List.length_append]
    rw [Nat.add_mul]
    omega
theorem J_le (l : List (List Int)) (m : Nat) (h : ∀ x ∈ l, x.length ≤ m) : (J l).length ≤ l.length * (m + 1) := by
  cases l with
  | nil => simp [J]
  | cons x t =>
    have := J_length (x :: t) m h
    simp only [tailJ, List.length_cons, J] at this ⊢
    omega
end Go.Proofs.Ytckdcaidhpjjaaa.Lex
