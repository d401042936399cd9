/- Blanks ahead of a text and behind it change nothing but the places. -/
import Derived.Test.YtckdcaidhpjjaaaStLexBlanks
import Derived.Test.YtckdcaidhpjjaaaLexLaw
namespace Go.Proofs.Ytckdcaidhpjjaaa.Pure
set_option linter.unusedVariables false
set_option linter.unusedSimpArgs false
open Go Go.RowKit Go.Proofs.Ytckdcaidhpjjaaa.Q Go.Proofs.YtckdcaidhpjjaaaW.PrintWords Go.Proofs.Ytckdcaidhpjjaaa.Aux Go.Proofs.Ytckdcaidhpjjaaa.By Go.Proofs.Ytckdcaidhpjjaaa.Lex Go.Proofs.Ytckdcaidhpjjaaa.Open

theorem rd_at (l : List Tok) (i : Nat) (t : Tok) (h : l[i]? = some t) : rd_T60 (l.map mk) (i : Int) = mk t := by
  simp [rd_T60, List.getD_eq_getElem?_getD, h]
theorem wins (x5 : ByteArray) (h5 : x5.size ≤ 100) (i : List Tok) (t t' : Tok) (hi : i.length ≤ 1000) (ha : ∀ x ∈ i, x.2.2 ≤ 1000) : ∀ (m n : Nat), n + m = i.length → Ev (fun k => registrarlaw09_LexBlanks.l1 k x5 ((i ++ [t]).map mk) ((i.map (shift x5.size) ++ [t']).map mk) n) true
  | m, n, hn => by
    refine Ev.step (fun k => registrarlaw09_LexBlanks.l1.eq_2 ..) ?_
    have l1 : ((i ++ [t]).map mk).length = i.length + 1 := by simp
    have l2 : ((i.map (shift x5.size) ++ [t']).map mk).length = i.length + 1 := by simp
    have hw : wrap64 ((n : Int) + 1) = ((n + 1 : Nat) : Int) := by rw [wrap_in (by omega) (by omega)]; omega
    simp only [hw, l1, l2]
    cases m with
    | zero =>
      refine ev_neg (by omega) ?_
      exact Ev.bind works_f (Ev.now _)
    | succ m =>
      have hlt : n < i.length := by omega
      have r1 := rd_at (i ++ [t]) n i[n] (by rw [List.getElem?_append_left hlt, List.getElem?_eq_getElem hlt])
      have r2 := rd_at (i.map (shift x5.size) ++ [t']) n (shift x5.size i[n]) (by rw [List.getElem?_append_left (by simpa using hlt)]; simp [List.getElem?_eq_getElem hlt])
      have hp := ha i[n] (List.getElem_mem hlt)
      rw [r1, r2]
      refine ev_pos (by omega) ?_
      refine ev_pos (by omega) ?_
      refine ev_pos (by omega) ?_
      refine ev_pos (by omega) ?_
      refine ev_pos rfl ?_
      refine ev_pos rfl ?_
      refine ev_pos (by rw [wrap_in (by simp only [mk]; omega) (by simp only [mk]; omega)]; simp [mk, shift]) ?_
      exact wins x5 h5 i t t' hi ha m (n + 1) (by omega)
theorem toks_many (f : Nat) : ∀ (c : Nat) (l : List Int) (at_ : Nat), (toks f c l at_).1.length ≤ f ∧ (∀ x ∈ (toks f c l at_).1, x.2.2 ≤ at_ + l.length) ∧ (toks f c l at_).2.1 ≤ at_ + l.length := by
  induction f with
  | zero => intro c l at_; simp [toks]
  | succ f ih =>
    intro c l at_
    have hle := cw_le Lex.blank l.length l
    simp only [toks]
    cases hr : l.drop (cw Lex.blank l.length l) with
    | nil =>
      simp only []
      split
      · simp; omega
      · simp; omega
    | cons x r =>
      have hrl : (x :: r).length + cw Lex.blank l.length l = l.length := by rw [← hr, List.length_drop]; omega
      have hol := one_le (x :: r)
      have := ih (c - 1) ((x :: r).drop (one (x :: r)).2) (at_ + cw Lex.blank l.length l + (one (x :: r)).2)
      rw [List.length_drop] at this
      simp only []
      split
      · simp; omega
      · split
        · simp; omega
        · split
          · refine ⟨by simp only [List.length_cons]; omega, ?_, by simp⟩
            intro y hy
            rcases List.mem_cons.1 hy with rfl | hy
            · simp only []; omega
            · have := this.2.1 y hy
              omega
          · refine ⟨by simp, by simp, ?_⟩
            have := this.2.2
            simp only []
            omega
theorem cut_many (l : List Int) : (cut l).1.length ≤ 401 ∧ (∀ x ∈ (cut l).1, x.2.2 ≤ 400) ∧ (cut l).2.1 ≤ 400 := by
  unfold cut
  by_cases h : l.length > 400
  · rw [if_pos h]
    simp
  · rw [if_neg h]
    have := toks_many (l.length + 1) 120 l 0
    refine ⟨by omega, fun x hx => ?_, by omega⟩
    have := this.2.1 x hx
    omega
theorem ending (x0 x5 : ByteArray) (h0 : x0.size ≤ 300) (h5 : x5.size ≤ 8) (hb : ∀ c ∈ B x5, Lex.blank c = true) (x1 x6 : Int) (h : ¬ x6 < wrap64 (Int.tmod x1 9)) : Ev (fun k => registrarlaw09_LexBlanks.l0 k x0 x1 x5 x6) true := by
  have b0 := B_size x0
  have b5 := B_size x5
  have hs : (x5 ++ x0).size = x5.size + x0.size := ByteArray.size_append ..
  have hs2 : (x5 ++ x0 ++ x5).size = x5.size + x0.size + x5.size := by rw [ByteArray.size_append, hs]
  refine Ev.step (fun k => registrarlaw09_LexBlanks.l0.eq_2 ..) ?_
  refine ev_neg h ?_
  refine Ev.bind (tokens_f x0 (by omega)) ?_
  refine ev_pos (by omega) ?_
  refine ev_pos (by omega) ?_
  refine Ev.bind (tokens_f (x5 ++ x0 ++ x5) (by omega)) ?_
  rw [B_append, B_append]
  have hr := cut_rel (B x5) (B x0) hb (by omega)
  rw [b5] at hr
  have hm := cut_many (B x0)
  obtain ⟨z, hz⟩ : ∃ z, cut (B x0) = z := ⟨_, rfl⟩
  obtain ⟨z', hz'⟩ : ∃ z', cut (B x5 ++ B x0 ++ B x5) = z' := ⟨_, rfl⟩
  rw [hz] at hr hm
  rw [hz'] at hr
  rw [hz, hz']
  clear hz hz'
  obtain ⟨he, h | h | h⟩ := hr
  · obtain ⟨h15, ha, hn1, hn2⟩ := h
    have e1 : all [] z = ([], (z.2.1 : Int), 15) := by unfold all; rw [if_neg (by omega), h15]
    have e2 : all [] z' = ([], ((z.2.1 + x5.size : Nat) : Int), 15) := by unfold all; rw [if_neg (by omega), he, h15, ha]
    rw [e1, e2]
    refine ev_pos rfl ?_
    refine ev_pos rfl ?_
    refine ev_neg (by simp) ?_
    refine ev_neg (by simp) ?_
    refine Ev.step (fun k => registrarlaw09_LexBlanks.j1.eq_2 ..) ?_
    refine ev_neg (by simp only []; rw [wrap_in (by omega) (by omega)]; simp) ?_
    refine Ev.step (fun k => registrarlaw09_LexBlanks.l1.eq_2 ..) ?_
    refine ev_neg (by rw [show wrap64 (0 + 1) = 1 from wrap_in (by omega) (by omega)]; simp) ?_
    exact Ev.bind works_f (Ev.now _)
  · obtain ⟨h15, hn1, hn2⟩ := h
    have e1 : all [] z = ([], (z.2.1 : Int), 5) := by unfold all; rw [if_neg (by omega), h15]
    have e2 : all [] z' = ([], (z'.2.1 : Int), 5) := by unfold all; rw [if_neg (by omega), he, h15]
    rw [e1, e2]
    refine ev_pos rfl ?_
    refine ev_pos rfl ?_
    refine ev_neg (by simp) ?_
    refine ev_pos rfl ?_
    refine Ev.step (fun k => registrarlaw09_LexBlanks.j1.eq_2 ..) ?_
    refine ev_neg (by simp) ?_
    refine Ev.step (fun k => registrarlaw09_LexBlanks.l1.eq_2 ..) ?_
    refine ev_neg (by rw [show wrap64 (0 + 1) = 1 from wrap_in (by omega) (by omega)]; simp) ?_
    exact Ev.bind works_f (Ev.now _)
  · obtain ⟨h15, i, t, t', hi, hi'⟩ := h
    have e1 : all [] z = ((i ++ [t]).map mk, 0, 0) := by unfold all; rw [if_pos h15, hi, List.nil_append]
    have e2 : all [] z' = ((i.map (shift x5.size) ++ [t']).map mk, 0, 0) := by unfold all; rw [if_pos (by omega), hi', List.nil_append]
    rw [e1, e2]
    rw [hi] at hm
    refine ev_pos rfl ?_
    refine ev_pos (by simp) ?_
    refine ev_pos rfl ?_
    refine Ev.step (fun k => registrarlaw09_LexBlanks.j1.eq_2 ..) ?_
    refine ev_neg (by simp) ?_
    have := hm.1
    rw [List.length_append] at this
    exact wins x5 (by omega) i t t' (by omega) (fun x hx => by have := hm.2.1 x (List.mem_append_left _ hx); omega) i.length 0 (by omega)
theorem fronts (x0 : ByteArray) (h0 : x0.size ≤ 300) (x1 : Int) (m : Nat) (hm : wrap64 (Int.tmod x1 9) = (m : Int)) (hm8 : m ≤ 8) : ∀ (j n : Nat) (x5 : ByteArray), n + j = m → x5.size = n → (∀ c ∈ B x5, Lex.blank c = true) → Ev (fun k => registrarlaw09_LexBlanks.l0 k x0 x1 x5 n) true
  | 0, n, x5, hn, hs, hb => ending x0 x5 h0 (by omega) hb x1 n (by rw [hm]; omega)
  | j + 1, n, x5, hn, hs, hb => by
    refine Ev.step (fun k => registrarlaw09_LexBlanks.l0.eq_2 ..) ?_
    refine ev_pos (by rw [hm]; omega) ?_
    have ht : Int.tmod (n : Int) 2 = ((n % 2 : Nat) : Int) := by
      rw [Int.tmod_eq_emod_of_nonneg (by omega)]
      omega
    have hw : wrap64 (((n % 2 : Nat) : Int) + 1) = ((n % 2 + 1 : Nat) : Int) := by rw [wrap_in (by omega) (by omega)]; omega
    have hw2 : wrap64 ((n : Int) + 1) = ((n + 1 : Nat) : Int) := by rw [wrap_in (by omega) (by omega)]; omega
    simp only [ht, hw, hw2, Int.toNat_natCast]
    have e : ∃ c, B ((⟨#[32, 10]⟩ : ByteArray).extract (n % 2) (n % 2 + 1)) = [c] ∧ Lex.blank c = true := by
      rcases (by omega : n % 2 = 0 ∨ n % 2 = 1) with h | h
      · rw [h]
        exact ⟨32, by decide, by decide⟩
      · rw [h]
        exact ⟨10, by decide, by decide⟩
    obtain ⟨c, hc, hbc⟩ := e
    have hsz : ((⟨#[32, 10]⟩ : ByteArray).extract (n % 2) (n % 2 + 1)).size = 1 := by rw [← B_size, hc]; rfl
    refine ev_pos (by omega) ?_
    refine ev_pos (by omega) ?_
    refine ev_pos (by omega) ?_
    refine ev_pos (by omega) ?_
    refine fronts x0 h0 x1 m hm hm8 j (n + 1) _ (by omega) (by rw [ByteArray.size_append, hsz, hs]) ?_
    intro x hx
    rw [B_append, hc] at hx
    rcases List.mem_append.1 hx with hx | hx
    · exact hb x hx
    · rw [List.mem_singleton.1 hx]
      exact hbc
theorem LexBlanks : registrarlaw09_LexBlanks.Pure := by
  intro s n _ hn
  refine Ev.rounds (g := fun k => registrarlaw09_LexBlanks.f k s n) ?_
  unfold registrarlaw09_LexBlanks.f
  by_cases h : (s.size : Int) > 300
  · refine ev_pos h ?_
    exact Ev.bind works_f (Ev.now _)
  · refine ev_neg h ?_
    have hn2 : 0 ≤ n ∧ n ≤ 255 := by
      simp [Lit.wf, IntKind.min, IntKind.max, IntKind.bits, IntKind.signed] at hn
      omega
    have ht : Int.tmod n 9 = n % 9 := Int.tmod_eq_emod_of_nonneg hn2.1
    have hm : wrap64 (Int.tmod n 9) = ((n % 9).toNat : Int) := by
      rw [ht, wrap_in (by omega) (by omega)]
      omega
    exact fronts s (by omega) n (n % 9).toNat hm (by omega) (n % 9).toNat 0 ⟨#[]⟩ (by omega) rfl (by intro c hc; cases hc)
end Go.Proofs.Ytckdcaidhpjjaaa.Pure
