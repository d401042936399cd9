/- The check of a tree, and its type. -/
import Derived.Test.YtbmgenifdlgbmaaTypE
namespace Go.Proofs.Ytbmgenifdlgbmaa.TypE
set_option linter.unusedVariables false
set_option linter.unusedSimpArgs false
open Go Go.RowKit Go.Proofs.Ytbmgenifdlgbmaa.Q Go.Proofs.YtbmgenifdlgbmaaW.PrintWords Go.Proofs.Ytbmgenifdlgbmaa.Aux Go.Proofs.Ytbmgenifdlgbmaa.By

theorem right_ex (x : S26) (s : Bool) (h2 : x.f3.size ≤ 100) (h3 : x.f2.f2.size ≤ 100) : ∃ b, Ev (fun k => expr_right.f k x.f0 x.f1 x.f2.f0 x.f2.f1 x.f2.f2 x.f3 x.f4 s) b := by
  unfold expr_right.f
  repeat' first
    | exact ev_now _
    | refine ev_if (fun _ => ?_) fun _ => ?_
    | refine ev_any (bare_any _ _ _ _ _ _ _ _ _ _) fun _ => ?_
    | refine ev_any (call_any _ _) fun _ => ?_
    | refine ev_bind (val_any _ _ _ (by omega)) fun _ => ?_
    | refine ev_bind (name_any _ (by omega)) fun _ => ?_
theorem right_any (x : S26) (s : Bool) (h2 : x.f3.size ≤ 100) (h3 : x.f2.f2.size ≤ 100) : ∃ b, Ev (fun k => expr_right.f k x.f0 x.f1 x.f2.f0 x.f2.f1 x.f2.f2 x.f3 x.f4 s) b ∧ (b = true → x.f0 = 6 → 2 ≤ x.f4.length) := by
  by_cases h : x.f0 = 6 ∧ x.f4.length < 2
  · refine ⟨false, ?_, fun h => absurd h (by simp)⟩
    unfold expr_right.f
    refine ev_neg (by omega) ?_
    refine ev_neg (by omega) ?_
    refine ev_neg (by omega) ?_
    refine ev_neg (by omega) ?_
    refine ev_neg (by omega) ?_
    refine ev_pos h.1 ?_
    exact ev_neg (by omega) (Ev.now _)
  · obtain ⟨b, hb⟩ := right_ex x s h2 h3
    exact ⟨b, hb, fun _ h6 => by omega⟩
/-- a tree that may be, as far as types ask -/
inductive Fine : S26 → Prop
  | mk (x : S26) (h1 : x.f4.length ≤ 12) (h6 : x.f0 = 6 → 2 ≤ x.f4.length) (h4 : ∀ y ∈ x.f4, Fine y) : Fine x
theorem kids_any {g : Nat → S26 → Option Bool} : ∀ (l : List S26), (∀ y ∈ l, ∃ b, Ev (fun k => g k y) b ∧ (b = true → Fine y)) → ∃ b, Ev (fun k => expr_Check.kids (g k) l) b ∧ (b = true → ∀ y ∈ l, Fine y)
  | [], _ => ⟨true, Ev.now _, fun _ y hy => by cases hy⟩
  | x :: t, h => by
    obtain ⟨b, h1, h2⟩ := h x List.mem_cons_self
    obtain ⟨c, h3, h4⟩ := kids_any t (fun y hy => h y (List.mem_cons_of_mem _ hy))
    by_cases hb : b = true
    · refine ⟨c, ?_, fun hc y hy => ?_⟩
      · simp only [expr_Check.kids]
        refine Ev.bind h1 ?_
        exact ev_pos hb h3
      · rcases List.mem_cons.1 hy with rfl | hy
        · exact h2 hb
        · exact h4 hc y hy
    · refine ⟨false, ?_, fun h => absurd h (by simp)⟩
      simp only [expr_Check.kids]
      refine Ev.bind h1 ?_
      exact ev_neg hb (Ev.now _)
theorem low_kids {m : Nat} {l : List S26} (h : expr_low.b (m + 1) l = true) : ∀ y ∈ l, expr_low.b m y.f4 = true := by
  intro y hy
  simp only [expr_low.b, Bool.not_eq_true', List.any_eq_false] at h
  have := h y hy
  simpa using this
theorem e_any (s : Bool) : ∀ (m : Nat) (x : S26), Sm x → expr_low.b m x.f4 = true → ∃ b, Ev (fun k => expr_Check.e k s m x) b ∧ (b = true → Fine x)
  | 0, x, _, h => absurd h (by simp [expr_low.b])
  | m + 1, x, hs, h => by
    obtain ⟨_, h1, h2, h3, h4⟩ := hs
    obtain ⟨b, g1, g2⟩ := right_any x s h2 h3
    obtain ⟨c, k1, k2⟩ := kids_any (g := fun k => expr_Check.e k s m) x.f4 (fun y hy => e_any s m y (h4 y hy) (low_kids h y hy))
    by_cases hb : b = true
    · refine ⟨c, ?_, fun hc => Fine.mk x h1 (g2 hb) (k2 hc)⟩
      simp only [expr_Check.e]
      refine Ev.bind g1 ?_
      exact ev_pos hb k1
    · refine ⟨false, ?_, fun h => absurd h (by simp)⟩
      simp only [expr_Check.e]
      refine Ev.bind g1 ?_
      exact ev_neg hb (Ev.now _)
theorem check_any (x : S26) (s : Bool) (hs : Sm x) : ∃ c : Int, Ev (fun k => expr_Check.f k x.f0 x.f1 x.f2.f0 x.f2.f1 x.f2.f2 x.f3 x.f4 s) c ∧ (c = 0 → Fine x ∧ expr_low.b 8 x.f4 = true) ∧ ¬ c = 37 := by
  unfold expr_Check.f
  by_cases hl : expr_low.b 8 x.f4 = true
  · obtain ⟨b, h1, h2⟩ := e_any s 8 x hs hl
    refine ⟨if b = true then 0 else 2, ?_, fun h => ?_, ?_⟩
    · refine ev_pos hl ?_
      exact Ev.bind h1 (Ev.now _)
    · refine ⟨h2 ?_, hl⟩
      by_cases hb : b = true
      · exact hb
      · rw [if_neg hb] at h
        exact absurd h (by decide)
    · split <;> decide
  · refine ⟨17, ?_, fun h => absurd h (by decide), by decide⟩
    exact ev_neg hl (Ev.now _)
theorem one_f (l : List Int) (hl : l.length ≤ 1000) (a : Int) : Ev (fun k => typing_one.f k l a) (oneP l a) := by
  have yes : a < 0 ∨ (l.length : Int) ≤ a → Ev (fun k => typing_one.j0 k l a true) (oneP l a) := by
    intro h
    unfold oneP
    rw [if_pos h]
    refine Ev.step (fun k => typing_one.j0.eq_2 ..) ?_
    exact ev_pos rfl (Ev.now _)
  unfold typing_one.f
  by_cases h0 : a < 0
  · exact ev_pos h0 (yes (.inl h0))
  · refine ev_neg h0 ?_
    by_cases h1 : (l.length : Int) ≤ a
    · rw [show decide (a ≥ (l.length : Int)) = true by simpa using h1]
      exact yes (.inr h1)
    · rw [show decide (a ≥ (l.length : Int)) = false by simpa using h1]
      unfold oneP
      rw [if_neg (by omega)]
      refine Ev.step (fun k => typing_one.j0.eq_2 ..) ?_
      refine ev_neg (by decide) ?_
      refine ev_pos (by omega) ?_
      refine ev_pos (by omega) ?_
      by_cases c1 : rd l a < 0
      · rw [if_pos (show rd l a < 0 ∨ rd l a > 3 from .inl c1)]
        exact ev_pos c1 (Ev.now _)
      · refine ev_neg c1 ?_
        by_cases c2 : rd l a > 3
        · rw [if_pos (show rd l a < 0 ∨ rd l a > 3 from .inr c2)]
          exact ev_pos c2 (Ev.now _)
        · rw [if_neg (show ¬ (rd l a < 0 ∨ rd l a > 3) by omega)]
          exact ev_neg c2 (Ev.now _)
theorem agree_l (l : List Int) (hl : l.length ≤ 1000) : ∀ (m i : Nat) (t : Int), i + m = l.length → Ev (fun k => typing_agree.l0 k t l l.length i) (agreeL t (l.drop i))
  | m, i, t, hi => by
    refine Ev.step (fun k => typing_agree.l0.eq_2 ..) ?_
    cases m with
    | zero =>
      refine ev_neg (by omega) ?_
      rw [List.drop_eq_nil_of_le (by omega)]
      exact Ev.now _
    | succ m =>
      have hlt : i < l.length := by omega
      have hw : wrap64 ((i : Int) + 1) = ((i + 1 : Nat) : Int) := by rw [wrap_in (by omega) (by omega)]; omega
      have hj : ∀ b, b = decide (l[i] ≠ 0 ∧ t ≠ 0 ∧ l[i] ≠ t) → Ev (fun k => typing_agree.j1 k t l[i] l l.length i b) (agreeL t (l.drop i)) := by
        intro b hb
        rw [List.drop_eq_getElem_cons hlt, agreeL]
        refine Ev.step (fun k => typing_agree.j1.eq_2 ..) ?_
        rw [hw]
        by_cases hc : l[i] ≠ 0 ∧ t ≠ 0 ∧ l[i] ≠ t
        · rw [if_pos hc]
          exact ev_pos (by rw [hb]; exact decide_eq_true hc) (Ev.now _)
        · rw [if_neg hc]
          refine ev_neg (by rw [hb]; simpa using hc) ?_
          by_cases h0 : t = 0
          · refine ev_pos h0 ?_
            rw [if_pos h0]
            exact agree_l l hl m (i + 1) _ (by omega)
          · refine ev_neg h0 ?_
            rw [if_neg h0]
            exact agree_l l hl m (i + 1) _ (by omega)
      refine ev_pos (by omega) ?_
      refine ev_pos (by omega) ?_
      refine ev_pos (by omega) ?_
      rw [rd_int l i hlt]
      by_cases h1 : l[i] = 0
      · refine ev_pos h1 ?_
        exact hj false (by simp [h1])
      · refine ev_neg h1 ?_
        by_cases h2 : t = 0
        · refine ev_pos h2 ?_
          exact hj false (by simp [h2])
        · refine ev_neg h2 ?_
          exact hj _ (by rw [Bool.eq_iff_iff]; simp [h1, h2, bne])
theorem agree_f (l : List Int) (hl : l.length ≤ 1000) : Ev (fun k => typing_agree.f k l) (agreeP l) := agree_l l hl l.length 0 0 (by omega)
theorem takes_f (w : Int) (l : List Int) (hl : l.length ≤ 900) : Ev (fun k => typing_takes.f k w l) (takesP w l) := by
  unfold typing_takes.f takesP
  refine ev_one rfl ?_
  refine ev_pos (by simp only [List.length_cons, List.length_nil]; omega) ?_
  refine Ev.bind (agree_f ([w] ++ l) (by simp; omega)) ?_
  exact Ev.now _
theorem called_f (s : ByteArray) (l : List Int) (hl : l.length ≤ 900) : Ev (fun k => typing_called.f k s l) (calledP s l) := by
  unfold typing_called.f calledP
  by_cases h1 : s.toList = ([108, 101, 110, 103, 116, 104] : List UInt8)
  · refine ev_pos h1 ?_
    rw [if_pos h1]
    exact Ev.bind (takes_f 3 l hl) (Ev.now _)
  · refine ev_neg h1 ?_
    rw [if_neg h1]
    by_cases h2 : s.toList = ([97, 98, 115] : List UInt8)
    · refine ev_pos h2 ?_
      rw [if_pos h2]
      exact Ev.bind (takes_f 1 l hl) (Ev.now _)
    · refine ev_neg h2 ?_
      rw [if_neg h2]
      exact Ev.bind (agree_f l (by omega)) (Ev.now _)
theorem signed_f (x : S26) (l : List Int) (hl : l.length ≤ 900) : Ev (fun k => typing_signed.f k x.f0 x.f1 x.f2.f0 x.f2.f1 x.f2.f2 x.f3 x.f4 l) (signedP x.f0 x.f1 l) := by
  have j4 : ∀ b, b = decide (x.f0 = 5 ∧ x.f1 ≤ 8) → Ev (fun k => typing_signed.j4 k l 1 1 b) (if x.f0 = 5 ∧ x.f1 ≤ 8 then (2, (agreeP l).2) else (1, takesP 1 l)) := by
    intro b hb
    refine Ev.step (fun k => typing_signed.j4.eq_2 ..) ?_
    by_cases hc : x.f0 = 5 ∧ x.f1 ≤ 8
    · rw [if_pos hc]
      refine ev_pos (by rw [hb]; exact decide_eq_true hc) ?_
      exact Ev.bind (agree_f l (by omega)) (Ev.now _)
    · rw [if_neg hc]
      refine ev_neg (by rw [hb]; simpa using hc) ?_
      exact Ev.bind (takes_f 1 l hl) (Ev.now _)
  have j3 : ∀ b, b = decide (x.f0 = 5 ∧ x.f1 = 14) → Ev (fun k => typing_signed.j3 k l 1 1 b x.f0 x.f1 x.f2.f0 x.f2.f1 x.f2.f2 x.f3 x.f4) (if x.f0 = 5 ∧ x.f1 = 14 then (3, takesP 3 l) else if x.f0 = 5 ∧ x.f1 ≤ 8 then (2, (agreeP l).2) else (1, takesP 1 l)) := by
    intro b hb
    refine Ev.step (fun k => typing_signed.j3.eq_2 ..) ?_
    by_cases hc : x.f0 = 5 ∧ x.f1 = 14
    · rw [if_pos hc]
      refine ev_pos (by rw [hb]; exact decide_eq_true hc) ?_
      exact Ev.bind (takes_f 3 l hl) (Ev.now _)
    · rw [if_neg hc]
      refine ev_neg (by rw [hb]; simpa using hc) ?_
      by_cases h5 : x.f0 = 5
      · refine ev_pos h5 ?_
        exact j4 _ (by simp [h5])
      · refine ev_neg h5 ?_
        exact j4 _ (by simp [h5])
  have j2 : ∀ b, b = decide ((x.f0 = 4 ∧ x.f1 = 2) ∨ (x.f0 = 5 ∧ x.f1 ≤ 2)) → Ev (fun k => typing_signed.j2 k l 1 1 b x.f0 x.f1 x.f2.f0 x.f2.f1 x.f2.f2 x.f3 x.f4) (if (x.f0 = 4 ∧ x.f1 = 2) ∨ (x.f0 = 5 ∧ x.f1 ≤ 2) then (2, takesP 2 l) else if x.f0 = 5 ∧ x.f1 = 14 then (3, takesP 3 l) else if x.f0 = 5 ∧ x.f1 ≤ 8 then (2, (agreeP l).2) else (1, takesP 1 l)) := by
    intro b hb
    refine Ev.step (fun k => typing_signed.j2.eq_2 ..) ?_
    by_cases hc : (x.f0 = 4 ∧ x.f1 = 2) ∨ (x.f0 = 5 ∧ x.f1 ≤ 2)
    · rw [if_pos hc]
      refine ev_pos (by rw [hb]; exact decide_eq_true hc) ?_
      exact Ev.bind (takes_f 2 l hl) (Ev.now _)
    · rw [if_neg hc]
      refine ev_neg (by rw [hb, decide_eq_true_eq]; exact hc) ?_
      by_cases h5 : x.f0 = 5
      · refine ev_pos h5 ?_
        exact j3 _ (by rw [Bool.eq_iff_iff]; simp [h5])
      · refine ev_neg h5 ?_
        exact j3 _ (by simp [h5])
  have j1 : ∀ b, b = decide (x.f0 = 4 ∧ x.f1 = 2) → Ev (fun k => typing_signed.j1 k l 1 1 b x.f0 x.f1 x.f2.f0 x.f2.f1 x.f2.f2 x.f3 x.f4) (if (x.f0 = 4 ∧ x.f1 = 2) ∨ (x.f0 = 5 ∧ x.f1 ≤ 2) then (2, takesP 2 l) else if x.f0 = 5 ∧ x.f1 = 14 then (3, takesP 3 l) else if x.f0 = 5 ∧ x.f1 ≤ 8 then (2, (agreeP l).2) else (1, takesP 1 l)) := by
    intro b hb
    refine Ev.step (fun k => typing_signed.j1.eq_2 ..) ?_
    by_cases hc : x.f0 = 4 ∧ x.f1 = 2
    · have hbt : b = true := by rw [hb]; exact decide_eq_true hc
      refine ev_pos hbt ?_
      exact j2 _ (by rw [hbt]; symm; exact decide_eq_true (.inl hc))
    · refine ev_neg (by rw [hb, decide_eq_true_eq]; exact hc) ?_
      by_cases h5 : x.f0 = 5
      · refine ev_pos h5 ?_
        exact j2 _ (by rw [Bool.eq_iff_iff]; simp [h5])
      · refine ev_neg h5 ?_
        exact j2 _ (by rw [Bool.eq_iff_iff]; simp only [decide_eq_true_eq]; constructor; intro h; cases h; rintro (h | h); exact absurd h hc; exact absurd h.1 h5)
  have j0 : ∀ b, b = decide (x.f0 = 4 ∧ (x.f1 = 3 ∨ x.f1 = 4)) → Ev (fun k => typing_signed.j0 k l 1 1 b x.f0 x.f1 x.f2.f0 x.f2.f1 x.f2.f2 x.f3 x.f4) (signedP x.f0 x.f1 l) := by
    intro b hb
    unfold signedP
    refine Ev.step (fun k => typing_signed.j0.eq_2 ..) ?_
    by_cases hc : x.f0 = 4 ∧ (x.f1 = 3 ∨ x.f1 = 4)
    · rw [if_pos hc]
      exact ev_pos (by rw [hb]; exact decide_eq_true hc) (Ev.now _)
    · rw [if_neg hc]
      refine ev_neg (by rw [hb, decide_eq_true_eq]; exact hc) ?_
      by_cases h4 : x.f0 = 4
      · refine ev_pos h4 ?_
        exact j1 _ (by rw [Bool.eq_iff_iff]; simp [h4])
      · refine ev_neg h4 ?_
        exact j1 _ (by simp [h4])
  unfold typing_signed.f
  by_cases h4 : x.f0 = 4
  · refine ev_pos h4 ?_
    by_cases h3 : x.f1 = 3
    · refine ev_pos h3 ?_
      exact j0 _ (by simp [h4, h3])
    · refine ev_neg h3 ?_
      exact j0 _ (by rw [Bool.eq_iff_iff]; simp [h4, h3])
  · refine ev_neg h4 ?_
    exact j0 _ (by simp [h4])
theorem made_l (l : List Int) (hl : l.length ≤ 900) (h2 : 1 ≤ l.length) : ∀ (m i : Nat), i + m = (l.drop 1).length → Ev (fun k => typing_made.l0 k l (l.drop 1) (l.drop 1).length i) (inP (rd l 0) ((l.drop 1).drop i))
  | m, i, hi => by
    refine Ev.step (fun k => typing_made.l0.eq_2 ..) ?_
    cases m with
    | zero =>
      refine ev_neg (by omega) ?_
      rw [List.drop_eq_nil_of_le (by omega : (l.drop 1).length ≤ i)]
      exact Ev.now _
    | succ m =>
      have hlt : i < (l.drop 1).length := by omega
      have hll : (l.drop 1).length ≤ 900 := by rw [List.length_drop]; omega
      rw [List.drop_eq_getElem_cons hlt, inP]
      refine ev_pos (by omega) ?_
      refine ev_pos (by omega) ?_
      refine ev_pos (by omega) ?_
      refine ev_pos (by omega) ?_
      rw [rd_int (l.drop 1) i hlt]
      refine Ev.bind (agree_f [rd l 0, (l.drop 1)[i]] (by simp)) ?_
      by_cases hc : (agreeP [rd l 0, (l.drop 1)[i]]).2 = true
      · refine ev_pos hc ?_
        rw [if_pos hc, show wrap64 ((i : Int) + 1) = ((i + 1 : Nat) : Int) by rw [wrap_in (by omega) (by omega)]; omega]
        exact made_l l hl h2 m (i + 1) (by omega)
      · refine ev_neg hc ?_
        rw [if_neg hc]
        exact Ev.now _
theorem made_f (x : S26) (l : List Int) (hl : l.length ≤ 900) (h6 : x.f0 = 6 → 1 ≤ l.length) : Ev (fun k => typing_made.f k x.f0 x.f1 x.f2.f0 x.f2.f1 x.f2.f2 x.f3 x.f4 l) (madeP x l) := by
  unfold typing_made.f madeP
  by_cases c6 : x.f0 = 6
  · refine ev_pos c6 ?_
    rw [if_pos c6]
    have h1 := h6 c6
    refine ev_pos (by omega) ?_
    exact made_l l hl h1 (l.drop 1).length 0 (by omega)
  · refine ev_neg c6 ?_
    rw [if_neg c6]
    by_cases c7 : x.f0 = 7
    · refine ev_pos c7 ?_
      rw [if_pos c7]
      exact Ev.bind (called_f x.f3 l hl) (Ev.now _)
    · refine ev_neg c7 ?_
      rw [if_neg c7]
      by_cases c4 : x.f0 = 4
      · refine ev_pos c4 ?_
        rw [if_pos (.inl c4)]
        exact Ev.bind (signed_f x l hl) (Ev.now _)
      · refine ev_neg c4 ?_
        by_cases c5 : x.f0 = 5
        · refine ev_pos c5 ?_
          rw [if_pos (.inr c5)]
          exact Ev.bind (signed_f x l hl) (Ev.now _)
        · refine ev_neg c5 ?_
          rw [if_neg (by omega)]
          exact Ev.now _
theorem typ_l (cols ps : List Int) (x : S26) (hx : x.f4.length ≤ 12) (h6 : x.f0 = 6 → 2 ≤ x.f4.length) (M : Nat) (ih : ∀ y ∈ x.f4, Ev (fun k => typing_typer_typ.f k cols ps y.f0 y.f1 y.f2.f0 y.f2.f1 y.f2.f2 y.f3 y.f4) (typP cols ps M y)) : ∀ (m i : Nat) (acc : List Int), i + m = x.f4.length → acc.length = i → Ev (fun k => typing_typer_typ.l0 k acc x.f4 x.f4.length i cols ps x.f0 x.f1 x.f2.f0 x.f2.f1 x.f2.f2 x.f3 x.f4) (kidsP (typP cols ps M) x acc (x.f4.drop i))
  | m, i, acc, hi, ha => by
    refine Ev.step (fun k => typing_typer_typ.l0.eq_2 ..) ?_
    cases m with
    | zero =>
      refine ev_neg (by omega) ?_
      rw [List.drop_eq_nil_of_le (by omega : x.f4.length ≤ i)]
      simp only [kidsP]
      refine Ev.bind (made_f x acc (by omega) (fun h => by have := h6 h; omega)) ?_
      by_cases hm : (madeP x acc).2 = true
      · refine ev_pos hm ?_
        rw [if_pos hm]
        exact Ev.now _
      · refine ev_neg hm ?_
        rw [if_neg hm]
        exact Ev.now _
    | succ m =>
      have hlt : i < x.f4.length := by omega
      rw [List.drop_eq_getElem_cons hlt]
      simp only [kidsP]
      refine ev_pos (by omega) ?_
      refine ev_pos (by omega) ?_
      refine ev_pos (by omega) ?_
      rw [rd_26 x.f4 i hlt]
      refine Ev.bind (ih x.f4[i] (List.getElem_mem hlt)) ?_
      by_cases h0 : (typP cols ps M x.f4[i]).2 = 0
      · refine ev_pos h0 ?_
        rw [if_pos h0]
        refine ev_pos (by omega) ?_
        rw [show wrap64 ((i : Int) + 1) = ((i + 1 : Nat) : Int) by rw [wrap_in (by omega) (by omega)]; omega]
        exact typ_l cols ps x hx h6 M ih m (i + 1) _ (by omega) (by rw [List.length_append, ha]; rfl)
      · refine ev_neg h0 ?_
        rw [if_neg h0]
        exact Ev.now _
theorem typ_f (cols ps : List Int) (hc : cols.length ≤ 900) (hp : ps.length ≤ 900) : ∀ (m : Nat) (x : S26), Fine x → expr_low.b m x.f4 = true → Ev (fun k => typing_typer_typ.f k cols ps x.f0 x.f1 x.f2.f0 x.f2.f1 x.f2.f2 x.f3 x.f4) (typP cols ps m x)
  | 0, x, _, h => absurd h (by simp [expr_low.b])
  | m + 1, x, hf, h => by
    obtain ⟨_, h1, h6, h4⟩ := hf
    have ih : ∀ y ∈ x.f4, Ev (fun k => typing_typer_typ.f k cols ps y.f0 y.f1 y.f2.f0 y.f2.f1 y.f2.f2 y.f3 y.f4) (typP cols ps m y) := fun y hy => typ_f cols ps hc hp m y (h4 y hy) (low_kids h y hy)
    refine Ev.step (fun k => typing_typer_typ.f.eq_2 ..) ?_
    simp only [typP]
    by_cases c1 : x.f0 = 1
    · refine ev_pos c1 ?_
      rw [if_pos c1]
      exact Ev.now _
    · refine ev_neg c1 ?_
      rw [if_neg c1]
      by_cases c8 : x.f0 = 8
      · refine ev_pos c8 ?_
        rw [if_pos c8]
        exact Ev.bind (one_f cols (by omega) _) (Ev.now _)
      · refine ev_neg c8 ?_
        rw [if_neg c8]
        by_cases c3 : x.f0 = 3
        · refine ev_pos c3 ?_
          rw [if_pos c3]
          exact Ev.bind (one_f ps (by omega) _) (Ev.now _)
        · refine ev_neg c3 ?_
          rw [if_neg c3]
          by_cases c2 : x.f0 = 2
          · refine ev_pos c2 ?_
            rw [if_pos c2]
            exact Ev.now _
          · refine ev_neg c2 ?_
            rw [if_neg c2]
            exact typ_l cols ps x h1 h6 m ih x.f4.length 0 [] (by omega) rfl
end Go.Proofs.Ytbmgenifdlgbmaa.TypE
