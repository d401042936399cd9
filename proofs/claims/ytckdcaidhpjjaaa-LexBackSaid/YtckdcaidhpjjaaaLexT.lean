/- What the lexer's functions come to, in plain words. -/
import Derived.Test.YtckdcaidhpjjaaaStLexBlanks
import Derived.Test.YtckdcaidhpjjaaaLexF
namespace Go.Proofs.Ytckdcaidhpjjaaa.Lex
set_option linter.unusedVariables false
set_option linter.unusedSimpArgs false
open Go Go.RowKit Go.Proofs.Ytckdcaidhpjjaaa.Q Go.Proofs.YtckdcaidhpjjaaaW.PrintWords Go.Proofs.Ytckdcaidhpjjaaa.Aux Go.Proofs.Ytckdcaidhpjjaaa.By

set_option maxHeartbeats 2000000 in
theorem toks_f (s : ByteArray) (hs : s.size ≤ 1000) : ∀ (f c : Nat) (acc : List S60) (at_ : Nat), acc.length + c = 120 → at_ ≤ s.size → ((B s).drop at_).length < f → Ev (fun k => lex_Tokens.l0 k s acc at_) (all acc (toks f c ((B s).drop at_) at_)) := by
  have hb := B_size s
  intro f
  induction f with
  | zero => intro c acc at_ _ _ h; omega
  | succ f ih =>
    intro c acc at_ hc hat hf
    refine Ev.step (fun k => lex_Tokens.l0.eq_2 ..) ?_
    refine Ev.bind (whole_c53 s hs at_ s.size hs (by omega)) ?_
    obtain ⟨l, hl⟩ : ∃ l, (B s).drop at_ = l := ⟨_, rfl⟩
    have hll : l.length + at_ = s.size := by rw [← hl, List.length_drop]; omega
    have hcw : cw blank s.size l = cw blank l.length l := cw_more blank s.size l (by omega) l.length (Nat.le_refl _)
    rw [hl] at hf
    rw [hl, hcw]
    clear hcw
    simp only [toks]
    have hle := cw_le blank l.length l
    obtain ⟨b, hbl⟩ : ∃ b, cw blank l.length l = b := ⟨_, rfl⟩
    rw [hbl] at hle ⊢
    clear hbl
    have hw : wrap64 ((at_ : Int) + (b : Int)) = ((at_ + b : Nat) : Int) := by rw [wrap_in (by omega) (by omega)]; omega
    simp only [hw]
    have hdrop : (B s).drop (at_ + b) = l.drop b := by rw [← hl, List.drop_drop]
    have hmk : ∀ (kd : Int) (x : ByteArray) (at2 : Nat), (⟨kd, x, (at2 : Int)⟩ : S60) = mk (kd, B x, at2) := by
      intro kd x at2
      simp [mk, strOfNums_B]
    by_cases h : at_ + b < s.size
    · refine ev_pos (by omega) ?_
      refine ev_pos (by omega) ?_
      refine ev_pos (by omega) ?_
      cases hr : l.drop b with
      | nil =>
        have := congrArg List.length hr
        simp at this
        omega
      | cons x r =>
        have hB : B (s.extract (at_ + b) s.size) = x :: r := by
          rw [B_extract, ← hb, List.take_length, hdrop, hr]
        simp only [Int.toNat_natCast]
        have h1 := one_f (s.extract (at_ + b) s.size) (by rw [← B_size, hB, ← hr, List.length_drop]; omega) (by rw [hB]; simp)
        rw [hB] at h1
        have hle1 := one_le (x :: r)
        have hk := one_kind (x :: r)
        have hrl : (x :: r).length + (at_ + b) = s.size := by rw [← hr, List.length_drop]; omega
        refine Ev.bind h1 ?_
        clear h1
        obtain ⟨⟨kd, n⟩, ho⟩ : ∃ o, one (x :: r) = o := ⟨_, rfl⟩
        rw [ho] at hle1 hk
        rw [ho]
        clear ho
        simp only [] at hle1 hk ⊢
        by_cases hn : n = 0
        · refine ev_pos (by omega) ?_
          rw [if_pos hn]
          exact Ev.now _
        · refine ev_neg (by omega) ?_
          rw [if_neg hn]
          have hw2 : wrap64 (((at_ + b : Nat) : Int) + (n : Int)) = ((at_ + b + n : Nat) : Int) := by rw [wrap_in (by omega) (by omega)]; omega
          simp only [hw2, Int.toNat_natCast]
          refine ev_pos (by omega) ?_
          refine ev_pos (by omega) ?_
          refine Ev.step (fun k => lex_Tokens.j1.eq_2 ..) ?_
          by_cases h0 : c = 0
          · refine ev_pos (by omega) ?_
            rw [if_pos h0]
            exact Ev.now _
          · refine ev_neg (by omega) ?_
            rw [if_neg h0]
            refine ev_pos (by omega) ?_
            refine ev_one rfl ?_
            refine ev_neg hk ?_
            have hx : B (s.extract (at_ + b) (at_ + b + n)) = (x :: r).take n := by
              rw [B_extract, ← List.take_drop, hdrop, hr]
            have hxs : ((s.extract (at_ + b) (at_ + b + n)).size : Int) = (n : Int) := by
              rw [← B_size, hx, List.length_take]
              omega
            rw [hxs, hw2, hmk, hx]
            have hd2 : (B s).drop (at_ + b + n) = (x :: r).drop n := by rw [← List.drop_drop, hdrop, hr]
            have := ih (c - 1) (acc ++ [mk (kd, (x :: r).take n, at_ + b)]) (at_ + b + n) (by simp; omega) (by omega) (by rw [hd2, List.length_drop]; omega)
            rw [hd2] at this
            refine ev_to this ?_
            unfold all
            by_cases hz : (toks f (c - 1) ((x :: r).drop n) (at_ + b + n)).2.2 = 0
            · rw [if_pos hz, if_pos hz]
              simp
            · rw [if_neg hz, if_neg hz]
              simp [hz]
    · refine ev_neg (by omega) ?_
      have : l.drop b = [] := List.drop_eq_nil_of_le (by omega)
      rw [this]
      refine Ev.step (fun k => lex_Tokens.j1.eq_2 ..) ?_
      by_cases h0 : c = 0
      · refine ev_pos (by omega) ?_
        simp only [if_pos h0]
        exact Ev.now _
      · refine ev_neg (by omega) ?_
        simp only [if_neg h0]
        refine ev_pos (by omega) ?_
        refine ev_one rfl ?_
        refine ev_pos (by simp) ?_
        rw [hmk]
        exact Ev.now _
/-- a text's tokens -/
def cut (l : List Int) : List Tok × Nat × Int := if l.length > 400 then ([], 0, 3) else toks (l.length + 1) 120 l 0
theorem tokens_f (s : ByteArray) (hs : s.size ≤ 100000) : Ev (fun k => lex_Tokens.f k s) (all [] (cut (B s))) := by
  have hb := B_size s
  unfold lex_Tokens.f cut
  by_cases h : s.size > 400
  · refine ev_pos (by omega) ?_
    rw [if_pos (by omega)]
    exact Ev.now _
  · refine ev_neg (by omega) ?_
    rw [if_neg (by omega)]
    have := toks_f s (by omega) ((B s).length + 1) 120 [] 0 rfl (by omega) (by simp)
    rw [List.drop_zero] at this
    exact this
theorem works_f : Ev (fun k => registrarlaw09_works.f k) true := by
  unfold registrarlaw09_works.f
  refine Ev.bind (tokens_f (⟨#[97, 60, 61, 45, 49]⟩ : ByteArray) (by decide)) ?_
  have e : cut (B (⟨#[97, 60, 61, 45, 49]⟩ : ByteArray)) = ([(1, [97], 0), (6, [60, 61], 1), (6, [45], 3), (3, [49], 4), (7, [], 5)], 0, 0) := by decide
  rw [e]
  simp only [all, if_true]
  refine ev_pos rfl ?_
  refine ev_pos (by decide) ?_
  refine ev_pos ((toList_lit _ _).2 rfl) ?_
  refine ev_pos (by decide) ?_
  refine ev_pos rfl ?_
  refine ev_pos (by decide) ?_
  exact Ev.now _
end Go.Proofs.Ytckdcaidhpjjaaa.Lex
