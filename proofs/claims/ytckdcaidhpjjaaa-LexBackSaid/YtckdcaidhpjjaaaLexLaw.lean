/- Tokens and blanks around a text; tokens put together again: plain words only. -/
import Derived.Test.YtckdcaidhpjjaaaLexT
namespace Go.Proofs.Ytckdcaidhpjjaaa.Lex
set_option linter.unusedVariables false
set_option linter.unusedSimpArgs false
open Go Go.RowKit Go.Proofs.Ytckdcaidhpjjaaa.Q Go.Proofs.YtckdcaidhpjjaaaW.PrintWords Go.Proofs.Ytckdcaidhpjjaaa.Aux Go.Proofs.Ytckdcaidhpjjaaa.By

theorem cw_all (l : List Int) (p : Int → Bool) (h : ∀ c ∈ l, p c = true) : cw p l.length l = l.length := by
  have := cw_front p [] l 0 h
  simpa [cw] using this
/-- the first that is not so -/
theorem cw_stop (p : Int → Bool) : ∀ (m : Nat) (l : List Int), l.length ≤ m → ∀ x r, l.drop (cw p m l) = x :: r → p x = false
  | 0, l, h, x, r, e => by
    have : l = [] := List.eq_nil_of_length_eq_zero (by omega)
    subst this
    simp at e
  | m + 1, [], h, x, r, e => by simp [cw] at e
  | m + 1, c :: l, h, x, r, e => by
    by_cases hp : p c = true
    · simp only [cw, hp, if_true, List.drop_succ_cons] at e
      exact cw_stop p m l (by simpa using h) x r e
    · simp only [cw, hp] at e
      simp at e
      obtain ⟨rfl, rfl⟩ := e
      simpa using hp
/-- the blanks ahead of a text with others behind it -/
theorem cw_ahead (p : Int → Bool) (b : List Int) : ∀ (l : List Int) (m m' : Nat), l.length ≤ m → (l ++ b).length ≤ m' → l.drop (cw p m l) ≠ [] → cw p m' (l ++ b) = cw p m l
  | [], m, m', _, _, h => by simp at h
  | c :: l, 0, m', h, _, _ => by simp at h
  | c :: l, m + 1, 0, _, h, _ => by simp at h
  | c :: l, m + 1, m' + 1, h, h', hn => by
    by_cases hp : p c = true
    · simp only [cw, hp, if_true, List.drop_succ_cons] at hn
      have := cw_ahead p b l m m' (by simpa using h) (by simpa using h') hn
      simp only [List.cons_append, cw, hp, if_true, this]
    · simp only [List.cons_append, cw, hp]
      simp
theorem toks_front (fr l : List Int) (hf : ∀ c ∈ fr, blank c = true) (f c at_ : Nat) : toks (f + 1) c (fr ++ l) at_ = toks (f + 1) c l (at_ + fr.length) := by
  have h1 : cw blank (fr ++ l).length (fr ++ l) = fr.length + cw blank l.length l := by
    rw [List.length_append]
    exact cw_front blank l fr l.length hf
  have h2 : (fr ++ l).drop (fr.length + cw blank l.length l) = l.drop (cw blank l.length l) := by
    rw [← List.drop_drop, List.drop_left]
  simp only [toks, h1, h2, Nat.add_assoc]
/-- the same tokens but the last, that many places on -/
def shift (d : Nat) (t : Tok) : Tok := (t.1, t.2.1, t.2.2 + d)
def Rel (d : Nat) (z z' : List Tok × Nat × Int) : Prop :=
  z'.2.2 = z.2.2 ∧ ((z.2.2 = 15 ∧ z'.2.1 = z.2.1 + d ∧ z.1 = [] ∧ z'.1 = []) ∨ (z.2.2 = 5 ∧ z.1 = [] ∧ z'.1 = []) ∨ (z.2.2 = 0 ∧ ∃ i t t', z.1 = i ++ [t] ∧ z'.1 = i.map (shift d) ++ [t']))
theorem toks_back (b : List Int) (hb : ∀ c ∈ b, blank c = true) (d : Nat) : ∀ (f c : Nat) (l : List Int) (f' at_ : Nat), l.length < f → (l ++ b).length < f' → Rel d (toks f c l at_) (toks f' c (l ++ b) (at_ + d)) := by
  intro f
  induction f with
  | zero => intro c l f' at_ h; omega
  | succ f ih =>
    intro c l f' at_ hl hl'
    cases f' with
    | zero => omega
    | succ f' =>
    simp only [toks]
    cases hr : l.drop (cw blank l.length l) with
    | nil =>
      have hle := cw_le blank l.length l
      have hlen := congrArg List.length hr
      simp at hlen
      have h1 : cw blank (l ++ b).length (l ++ b) = (l ++ b).length := by
        refine cw_all _ _ (fun x hx => ?_)
        rcases List.mem_append.1 hx with hx | hx
        · have hall : ∀ (l : List Int), l.length ≤ cw blank l.length l → ∀ x ∈ l, blank x = true := by
            intro l
            induction l with
            | nil => intro _ x hx; simp at hx
            | cons y l ih =>
              intro h x hx
              simp only [List.length_cons, cw] at h
              split at h
              · rename_i hy
                rcases List.mem_cons.1 hx with rfl | hx
                · exact hy
                · exact ih (by omega) x hx
              · omega
          exact hall l (by omega) x hx
        · exact hb x hx
      have h2 : (l ++ b).drop (cw blank (l ++ b).length (l ++ b)) = [] := by rw [h1]; simp
      simp only [h2]
      by_cases h0 : c = 0
      · simp only [if_pos h0]
        exact ⟨rfl, .inr (.inl ⟨rfl, rfl, rfl⟩)⟩
      · simp only [if_neg h0]
        exact ⟨rfl, .inr (.inr ⟨rfl, [], _, _, rfl, rfl⟩)⟩
    | cons x r =>
      have hne : l.drop (cw blank l.length l) ≠ [] := by rw [hr]; simp
      have h1 := cw_ahead blank b l l.length (l ++ b).length (Nat.le_refl _) (Nat.le_refl _) hne
      have hle := cw_le blank l.length l
      have h2 : (l ++ b).drop (cw blank l.length l) = x :: (r ++ b) := by
        rw [List.drop_append_of_le_length hle, hr]
        rfl
      have h3 := one_blanks b hb (x :: r) (by simp)
      rw [List.cons_append] at h3
      have hol := one_le (x :: r)
      simp only [h1, h2, h3]
      by_cases hn : (one (x :: r)).2 = 0
      · simp only [if_pos hn]
        exact ⟨rfl, .inl ⟨rfl, by show at_ + d + _ = at_ + _ + d; omega, rfl, rfl⟩⟩
      · simp only [if_neg hn]
        by_cases h0 : c = 0
        · simp only [if_pos h0]
          exact ⟨rfl, .inr (.inl ⟨rfl, rfl, rfl⟩)⟩
        · simp only [if_neg h0]
          have hrl : (x :: r).length + cw blank l.length l = l.length := by rw [← hr, List.length_drop]; omega
          have hd : (x :: (r ++ b)).drop (one (x :: r)).2 = (x :: r).drop (one (x :: r)).2 ++ b := by
            rw [← List.cons_append, List.drop_append_of_le_length hol]
          have ht : (x :: (r ++ b)).take (one (x :: r)).2 = (x :: r).take (one (x :: r)).2 := by
            rw [← List.cons_append, List.take_append_of_le_length hol]
          have hat : at_ + d + cw blank l.length l + (one (x :: r)).2 = at_ + cw blank l.length l + (one (x :: r)).2 + d := by omega
          rw [hd, ht, hat]
          have hll : (l ++ b).length = l.length + b.length := List.length_append
          have := ih (c - 1) ((x :: r).drop (one (x :: r)).2) f' (at_ + cw blank l.length l + (one (x :: r)).2) (by rw [List.length_drop]; omega) (by rw [List.length_append, List.length_drop]; omega)
          obtain ⟨z, hz⟩ : ∃ z, toks f (c - 1) ((x :: r).drop (one (x :: r)).2) (at_ + cw blank l.length l + (one (x :: r)).2) = z := ⟨_, rfl⟩
          obtain ⟨z', hz'⟩ : ∃ z', toks f' (c - 1) ((x :: r).drop (one (x :: r)).2 ++ b) (at_ + cw blank l.length l + (one (x :: r)).2 + d) = z' := ⟨_, rfl⟩
          rw [hz, hz'] at this ⊢
          obtain ⟨he, h | h | h⟩ := this
          · obtain ⟨h15, ha, hn1, hn2⟩ := h
            have e1 : ¬ z.2.2 = 0 := by omega
            have e2 : ¬ z'.2.2 = 0 := by omega
            simp only [if_neg e1, if_neg e2]
            exact ⟨he, .inl ⟨h15, ha, rfl, rfl⟩⟩
          · obtain ⟨h15, hn1, hn2⟩ := h
            have e1 : ¬ z.2.2 = 0 := by omega
            have e2 : ¬ z'.2.2 = 0 := by omega
            simp only [if_neg e1, if_neg e2]
            exact ⟨he, .inr (.inl ⟨h15, rfl, rfl⟩)⟩
          · obtain ⟨h15, i, t, t', hi, hi'⟩ := h
            have e2 : z'.2.2 = 0 := by omega
            simp only [if_pos h15, if_pos e2]
            refine ⟨rfl, .inr (.inr ⟨rfl, ((one (x :: r)).1, (x :: r).take (one (x :: r)).2, at_ + cw blank l.length l) :: i, t, t', by rw [hi]; rfl, ?_⟩)⟩
            rw [hi']
            simp [shift]
            omega
/-- tokens of a text are as those of the text with blanks ahead and behind -/
theorem cut_rel (fr l : List Int) (hf : ∀ c ∈ fr, blank c = true) (h : l.length + fr.length + fr.length ≤ 400) : Rel fr.length (cut l) (cut (fr ++ l ++ fr)) := by
  unfold cut
  have e : (fr ++ l ++ fr).length = fr.length + l.length + fr.length := by simp; omega
  rw [if_neg (by omega), if_neg (by omega), List.append_assoc, toks_front fr (l ++ fr) hf]
  exact toks_back fr hf fr.length (l.length + 1) 120 l ((fr ++ (l ++ fr)).length + 1) 0 (by omega) (by simp; omega)
end Go.Proofs.Ytckdcaidhpjjaaa.Lex
