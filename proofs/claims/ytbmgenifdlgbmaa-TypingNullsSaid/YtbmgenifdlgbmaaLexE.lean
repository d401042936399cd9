/- What the lexer's functions come to, in plain words. -/
import Derived.Test.YtbmgenifdlgbmaaQ3
import Derived.Test.YtbmgenifdlgbmaaLex
namespace Go.Proofs.Ytbmgenifdlgbmaa.Lex
set_option linter.unusedVariables false
set_option linter.unusedSimpArgs false
open Go Go.RowKit Go.Proofs.Ytbmgenifdlgbmaa.Q Go.Proofs.YtbmgenifdlgbmaaW.PrintWords Go.Proofs.Ytbmgenifdlgbmaa.Aux Go.Proofs.Ytbmgenifdlgbmaa.By

theorem ev_to {α : Type} {g : Nat → Option α} {a b : α} (h : Ev g a) (e : a = b) : Ev g b := e ▸ h
theorem small_f (c : Int) : lex_small.f c = some (small c) := by
  unfold lex_small.f small
  by_cases h : c ≥ 97
  · rw [if_pos h]
    simp [show (97 : Int) ≤ c from h]
  · rw [if_neg h]
    simp [show ¬ (97 : Int) ≤ c from h]
theorem capital_f (c : Int) : lex_capital.f c = some (capital c) := by
  unfold lex_capital.f capital
  by_cases h : c ≥ 65
  · rw [if_pos h]
    simp [show (65 : Int) ≤ c from h]
  · rw [if_neg h]
    simp [show ¬ (65 : Int) ≤ c from h]
theorem digit_f (c : Int) : lex_digit.f c = some (digit c) := by
  unfold lex_digit.f digit
  by_cases h : c ≥ 48
  · rw [if_pos h]
    simp [show (48 : Int) ≤ c from h]
  · rw [if_neg h]
    simp [show ¬ (48 : Int) ≤ c from h]
theorem named_f (c : Int) : lex_one_1.f c = some (named c) := by
  unfold lex_one_1.f named
  rw [small_f, digit_f]
  cases small c <;> cases digit c <;> simp
theorem keyed_f (c : Int) : lex_one_2.f c = some (keyed c) := by
  unfold lex_one_2.f keyed
  rw [capital_f]
  cases capital c <;> simp
theorem glued_f (c : Int) : lex_glued.f c = some (glued c) := by
  unfold lex_glued.f glued
  rw [small_f, digit_f, capital_f]
  by_cases h : c = 95
  · cases small c <;> cases digit c <;> cases capital c <;> simp [h]
  · cases small c <;> cases digit c <;> cases capital c <;> simp [h]
theorem alone_f (s : ByteArray) (n : Nat) : lex_alone.f s (n : Int) = some (alone (B s) n : Int) := by
  unfold lex_alone.f alone
  have hb := B_size s
  by_cases h : n < s.size
  · rw [if_pos (by omega), if_pos (by omega), bt_B, Int.toNat_natCast, List.drop_eq_getElem_cons (by omega)]
    rw [List.getD_eq_getElem?_getD, List.getElem?_eq_getElem (by omega), Option.getD_some, glued_f]
    simp only [Option.bind_some]
    split
    · rename_i h
      simp [h]
    · rename_i h
      simp [h]
  · rw [if_neg (by omega), List.drop_eq_nil_of_le (by omega)]
theorem while_c168 (s : ByteArray) (hs : s.size ≤ 1000) (at_ most : Nat) (hm : most ≤ 1000) (ha : at_ ≤ 1000) : ∀ (m n : Nat), n + m = most → Ev (fun k => lex_while_c168.l0 k s at_ most n) ((n + cw named m ((B s).drop (at_ + n)) : Nat) : Int)
  | m, n, hn => by
    have hb := B_size s
    have hw : wrap64 ((at_ : Int) + (n : Int)) = ((at_ + n : Nat) : Int) := by rw [wrap_in (by omega) (by omega)]; omega
    refine Ev.step (fun k => lex_while_c168.l0.eq_2 ..) ?_
    simp only [hw]
    by_cases h : at_ + n < s.size
    · refine ev_pos (by omega) ?_
      cases m with
      | zero =>
        refine ev_neg (by omega) ?_
        simp only [cw, Nat.add_zero]
        exact Ev.now _
      | succ m =>
        refine ev_pos (by omega) ?_
        refine ev_pos (by omega) ?_
        refine ev_one (named_f _) ?_
        have hc : bt s ((at_ + n : Nat) : Int) = (B s)[at_ + n]'(by omega) := by
          rw [bt_B, Int.toNat_natCast, List.getD_eq_getElem?_getD, List.getElem?_eq_getElem (by omega), Option.getD_some]
        rw [hc, List.drop_eq_getElem_cons (by omega : at_ + n < (B s).length)]
        by_cases hp : named ((B s)[at_ + n]'(by omega)) = true
        · refine ev_pos hp ?_
          rw [wrap_in (by omega) (by omega)]
          have := while_c168 s hs at_ most hm ha m (n + 1) (by omega)
          simp only [cw, hp, if_true]
          have e : n + (cw named m ((B s).drop (at_ + n + 1)) + 1) = n + 1 + cw named m ((B s).drop (at_ + (n + 1))) := by
            rw [Nat.add_assoc at_ n 1]
            omega
          rw [e]
          exact this
        · refine ev_neg hp ?_
          simp only [cw, hp, Nat.add_zero]
          exact Ev.now _
    · refine ev_neg (by omega) ?_
      rw [List.drop_eq_nil_of_le (by omega)]
      have : cw named m [] = 0 := by cases m <;> rfl
      rw [this]
      exact Ev.now _
theorem whole_c168 (s : ByteArray) (hs : s.size ≤ 1000) (at_ most : Nat) (hm : most ≤ 1000) (ha : at_ ≤ 1000) : Ev (fun k => lex_while_c168.f k s at_ most) ((cw named most ((B s).drop at_) : Nat) : Int) := by
  have := while_c168 s hs at_ most hm ha most 0 (by omega)
  simp only [Nat.zero_add, Nat.add_zero] at this
  exact this
theorem while_c172 (s : ByteArray) (hs : s.size ≤ 1000) (at_ most : Nat) (hm : most ≤ 1000) (ha : at_ ≤ 1000) : ∀ (m n : Nat), n + m = most → Ev (fun k => lex_while_c172.l0 k s at_ most n) ((n + cw keyed m ((B s).drop (at_ + n)) : Nat) : Int)
  | m, n, hn => by
    have hb := B_size s
    have hw : wrap64 ((at_ : Int) + (n : Int)) = ((at_ + n : Nat) : Int) := by rw [wrap_in (by omega) (by omega)]; omega
    refine Ev.step (fun k => lex_while_c172.l0.eq_2 ..) ?_
    simp only [hw]
    by_cases h : at_ + n < s.size
    · refine ev_pos (by omega) ?_
      cases m with
      | zero =>
        refine ev_neg (by omega) ?_
        simp only [cw, Nat.add_zero]
        exact Ev.now _
      | succ m =>
        refine ev_pos (by omega) ?_
        refine ev_pos (by omega) ?_
        refine ev_one (keyed_f _) ?_
        have hc : bt s ((at_ + n : Nat) : Int) = (B s)[at_ + n]'(by omega) := by
          rw [bt_B, Int.toNat_natCast, List.getD_eq_getElem?_getD, List.getElem?_eq_getElem (by omega), Option.getD_some]
        rw [hc, List.drop_eq_getElem_cons (by omega : at_ + n < (B s).length)]
        by_cases hp : keyed ((B s)[at_ + n]'(by omega)) = true
        · refine ev_pos hp ?_
          rw [wrap_in (by omega) (by omega)]
          have := while_c172 s hs at_ most hm ha m (n + 1) (by omega)
          simp only [cw, hp, if_true]
          have e : n + (cw keyed m ((B s).drop (at_ + n + 1)) + 1) = n + 1 + cw keyed m ((B s).drop (at_ + (n + 1))) := by
            rw [Nat.add_assoc at_ n 1]
            omega
          rw [e]
          exact this
        · refine ev_neg hp ?_
          simp only [cw, hp, Nat.add_zero]
          exact Ev.now _
    · refine ev_neg (by omega) ?_
      rw [List.drop_eq_nil_of_le (by omega)]
      have : cw keyed m [] = 0 := by cases m <;> rfl
      rw [this]
      exact Ev.now _
theorem whole_c172 (s : ByteArray) (hs : s.size ≤ 1000) (at_ most : Nat) (hm : most ≤ 1000) (ha : at_ ≤ 1000) : Ev (fun k => lex_while_c172.f k s at_ most) ((cw keyed most ((B s).drop at_) : Nat) : Int) := by
  have := while_c172 s hs at_ most hm ha most 0 (by omega)
  simp only [Nat.zero_add, Nat.add_zero] at this
  exact this
theorem while_c169 (s : ByteArray) (hs : s.size ≤ 1000) (at_ most : Nat) (hm : most ≤ 1000) (ha : at_ ≤ 1000) : ∀ (m n : Nat), n + m = most → Ev (fun k => lex_while_c169.l0 k s at_ most n) ((n + cw digit m ((B s).drop (at_ + n)) : Nat) : Int)
  | m, n, hn => by
    have hb := B_size s
    have hw : wrap64 ((at_ : Int) + (n : Int)) = ((at_ + n : Nat) : Int) := by rw [wrap_in (by omega) (by omega)]; omega
    refine Ev.step (fun k => lex_while_c169.l0.eq_2 ..) ?_
    simp only [hw]
    by_cases h : at_ + n < s.size
    · refine ev_pos (by omega) ?_
      cases m with
      | zero =>
        refine ev_neg (by omega) ?_
        simp only [cw, Nat.add_zero]
        exact Ev.now _
      | succ m =>
        refine ev_pos (by omega) ?_
        refine ev_pos (by omega) ?_
        refine ev_one (digit_f _) ?_
        have hc : bt s ((at_ + n : Nat) : Int) = (B s)[at_ + n]'(by omega) := by
          rw [bt_B, Int.toNat_natCast, List.getD_eq_getElem?_getD, List.getElem?_eq_getElem (by omega), Option.getD_some]
        rw [hc, List.drop_eq_getElem_cons (by omega : at_ + n < (B s).length)]
        by_cases hp : digit ((B s)[at_ + n]'(by omega)) = true
        · refine ev_pos hp ?_
          rw [wrap_in (by omega) (by omega)]
          have := while_c169 s hs at_ most hm ha m (n + 1) (by omega)
          simp only [cw, hp, if_true]
          have e : n + (cw digit m ((B s).drop (at_ + n + 1)) + 1) = n + 1 + cw digit m ((B s).drop (at_ + (n + 1))) := by
            rw [Nat.add_assoc at_ n 1]
            omega
          rw [e]
          exact this
        · refine ev_neg hp ?_
          simp only [cw, hp, Nat.add_zero]
          exact Ev.now _
    · refine ev_neg (by omega) ?_
      rw [List.drop_eq_nil_of_le (by omega)]
      have : cw digit m [] = 0 := by cases m <;> rfl
      rw [this]
      exact Ev.now _
theorem whole_c169 (s : ByteArray) (hs : s.size ≤ 1000) (at_ most : Nat) (hm : most ≤ 1000) (ha : at_ ≤ 1000) : Ev (fun k => lex_while_c169.f k s at_ most) ((cw digit most ((B s).drop at_) : Nat) : Int) := by
  have := while_c169 s hs at_ most hm ha most 0 (by omega)
  simp only [Nat.zero_add, Nat.add_zero] at this
  exact this
theorem B_at (s : ByteArray) (i : Nat) (h : i < (B s).length) : bt s (i : Int) = (B s)[i] := by
  rw [bt_B, Int.toNat_natCast, List.getD_eq_getElem?_getD, List.getElem?_eq_getElem h, Option.getD_some]
theorem quoted_l (s : ByteArray) (hs : s.size ≤ 1000) : ∀ (n i : Nat), (B s).length ≤ i + n → Ev (fun k => lex_quoted.l0 k s i) (((qt ((B s).drop i)).map (fun x => ((i + x : Nat) : Int))).getD 0) := by
  intro n
  induction n using Nat.strongRecOn with
  | _ n ih =>
  intro i hi
  have hb := B_size s
  refine Ev.step (fun k => lex_quoted.l0.eq_2 ..) ?_
  by_cases h : i < s.size
  · refine ev_pos (by omega) ?_
    refine ev_pos (by omega) ?_
    have hc := B_at s i (by omega)
    have hd := List.drop_eq_getElem_cons (l := B s) (i := i) (by omega)
    rw [hd]
    obtain ⟨c, hcc⟩ : ∃ c, (B s)[i]'(by omega) = c := ⟨_, rfl⟩
    rw [hcc] at hc ⊢
    simp only [hc]
    have hj : ∀ b : Bool, b = decide (c < 32 ∨ 126 < c) → Ev (fun k => lex_quoted.j1 k s i b) (((qt (c :: (B s).drop (i + 1))).map (fun x => ((i + x : Nat) : Int))).getD 0) := by
      intro b hbb
      subst hbb
      refine Ev.step (fun k => lex_quoted.j1.eq_2 ..) ?_
      by_cases hr : c < 32 ∨ 126 < c
      · refine ev_pos (by simp [hr]) ?_
        have : qt (c :: (B s).drop (i + 1)) = none := by
          cases (B s).drop (i + 1) <;> simp [qt, hr]
        rw [this]
        exact Ev.now _
      · refine ev_neg (by simp [hr]) ?_
        refine ev_pos (by omega) ?_
        refine ev_pos (by omega) ?_
        have hw : wrap64 ((i : Int) + 1) = ((i + 1 : Nat) : Int) := by rw [wrap_in (by omega) (by omega)]; omega
        have hw2 : wrap64 (((i + 1 : Nat) : Int) + 1) = ((i + 2 : Nat) : Int) := by rw [wrap_in (by omega) (by omega)]; omega
        simp only [hw, hw2, hc]
        by_cases h39 : c = 39
        · refine ev_pos h39 ?_
          by_cases h1 : i + 1 < s.size
          · refine ev_pos (by omega) ?_
            refine ev_pos (by omega) ?_
            have hd1 := List.drop_eq_getElem_cons (l := B s) (i := i + 1) (by omega)
            rw [B_at s (i + 1) (by omega), hd1]
            by_cases h2 : (B s)[i + 1]'(by omega) = 39
            · refine ev_pos h2 ?_
              have := ih (n - 2) (by omega) (i + 2) (by omega)
              simp only [qt, if_neg hr, if_pos h39, if_pos h2]
              refine ev_to this ?_
              cases qt ((B s).drop (i + 1 + 1)) <;> simp <;> omega
            · refine ev_neg h2 ?_
              simp only [qt, if_neg hr, if_pos h39, if_neg h2]
              exact Ev.now _
          · refine ev_neg (by omega) ?_
            rw [List.drop_eq_nil_of_le (by omega)]
            simp only [qt, if_neg hr, if_pos h39]
            exact Ev.now _
        · refine ev_neg h39 ?_
          have := ih (n - 1) (by omega) (i + 1) (by omega)
          refine ev_to this ?_
          cases hq : (B s).drop (i + 1) with
          | nil => simp [qt, hr, h39]
          | cons d t =>
            simp only [qt, if_neg hr, if_neg h39]
            cases qt (d :: t) <;> simp <;> omega
    by_cases h32 : c < 32
    · refine ev_pos h32 ?_
      exact hj true (by simp [h32])
    · refine ev_neg h32 ?_
      exact hj _ (by simp [h32])
  · refine ev_neg (by omega) ?_
    rw [List.drop_eq_nil_of_le (by omega)]
    exact Ev.now _
theorem quoted_f (s : ByteArray) (hs : s.size ≤ 1000) (c : Int) (t : List Int) (h : B s = c :: t) : Ev (fun k => lex_quoted.f k s) ((((qt t).map (· + 1)).getD 0 : Nat) : Int) := by
  have := quoted_l s hs (B s).length 1 (by omega)
  rw [h] at this
  refine ev_to this ?_
  show ((qt (List.drop 1 (c :: t))).map _).getD 0 = _
  simp only [List.drop_succ_cons, List.drop_zero]
  cases qt t <;> simp <;> omega
theorem prefix_f (s x : ByteArray) : strings_HasPrefix.f s x = some (decide ((B s).take (B x).length = B x)) := by
  have hs := B_size s
  have hx := B_size x
  have e : stringslite_HasPrefix.f s x = some (decide ((B s).take (B x).length = B x)) := by
    unfold stringslite_HasPrefix.f
    by_cases h : (s.size : Int) ≥ (x.size : Int)
    · rw [if_pos h, if_pos (by omega), if_pos (by omega)]
      congr 1
      rw [Bool.eq_iff_iff]
      simp only [beq_iff_eq, decide_eq_true_eq]
      rw [toList_eq_iff]
      constructor
      · intro h1
        have h2 := congrArg B h1
        rw [B_extract] at h2
        simpa [hx] using h2
      · intro h1
        refine B_inj ?_
        rw [B_extract]
        simpa [hx] using h1
    · rw [if_neg h]
      congr 1
      symm
      rw [decide_eq_false_iff_not]
      intro h1
      have h2 := congrArg List.length h1
      simp at h2
      omega
  unfold strings_HasPrefix.f
  rw [e]
  rfl
theorem pick_f (s : ByteArray) (x : ByteArray) (t : List ByteArray) : lex_sign.pick s (x :: t) = if (B s).take (B x).length = B x then some ((B x).length : Int) else lex_sign.pick s t := by
  rw [lex_sign.pick, prefix_f, B_size]
  simp
theorem sign_f (s : ByteArray) : lex_sign.f s = some ((sg (B s) : Nat) : Int) := by
  unfold lex_sign.f
  simp only [lex_sign.L1, lex_sign.L2, List.cons_append, List.nil_append, pick_f]
  have e2 : ∀ a b : UInt8, B (⟨#[a, b]⟩ : ByteArray) = [(a.toNat : Int), (b.toNat : Int)] := fun a b => rfl
  have e1 : ∀ a : UInt8, B (⟨#[a]⟩ : ByteArray) = [(a.toNat : Int)] := fun a => rfl
  simp only [e1, e2, lex_sign.pick]
  match B s with
  | [] => simp [sg]
  | [c] =>
    simp only [sg, sg1, List.length_cons, List.length_nil, List.take_succ_cons, List.take_zero, List.take_nil]
    by_cases h : sg1 c = true
    · simp only [sg1, Bool.or_eq_true, beq_iff_eq] at h
      rcases h with (((((((((h | h) | h) | h) | h) | h) | h) | h) | h) | h) | h <;> subst h <;> rfl
    · simp only [sg1, Bool.or_eq_true, beq_iff_eq, not_or] at h
      obtain ⟨⟨⟨⟨⟨⟨⟨⟨⟨⟨h1, h2⟩, h3⟩, h4⟩, h5⟩, h6⟩, h7⟩, h8⟩, h9⟩, h10⟩, h11⟩ := h
      simp [*]
  | c :: d :: t =>
    simp only [sg, List.length_cons, List.length_nil, List.take_succ_cons, List.take_zero, List.cons.injEq, and_true]
    by_cases h : sg2 c d = true
    · rw [if_pos h]
      simp only [sg2, Bool.or_eq_true, Bool.and_eq_true, beq_iff_eq] at h
      rcases h with ((⟨h, g⟩ | ⟨h, g⟩) | ⟨h, g⟩) | ⟨h, g⟩ <;> subst h <;> subst g <;> rfl
    · rw [if_neg h]
      simp only [sg2, Bool.or_eq_true, Bool.and_eq_true, beq_iff_eq, not_or] at h
      obtain ⟨⟨⟨h1, h2⟩, h3⟩, h4⟩ := h
      rw [if_neg (by simpa using h1), if_neg (by simpa using h2), if_neg (by simpa using h3), if_neg (by simpa using h4)]
      by_cases h : sg1 c = true
      · rw [if_pos h]
        simp only [sg1, Bool.or_eq_true, beq_iff_eq] at h
        rcases h with (((((((((h | h) | h) | h) | h) | h) | h) | h) | h) | h) | h <;> subst h <;> rfl
      · rw [if_neg h]
        simp only [sg1, Bool.or_eq_true, beq_iff_eq, not_or] at h
        obtain ⟨⟨⟨⟨⟨⟨⟨⟨⟨⟨h1, h2⟩, h3⟩, h4⟩, h5⟩, h6⟩, h7⟩, h8⟩, h9⟩, h10⟩, h11⟩ := h
        simp [*]
theorem one_f (s : ByteArray) (hs : s.size ≤ 1000) (h0 : B s ≠ []) : Ev (fun k => lex_one.f k s) ((one (B s)).1, (((one (B s)).2 : Nat) : Int)) := by
  have hb := B_size s
  obtain ⟨c, t, hl⟩ : ∃ c t, B s = c :: t := by
    cases h : B s with
    | nil => exact absurd h h0
    | cons c t => exact ⟨c, t, rfl⟩
  have hlen : (B s).length = t.length + 1 := by rw [hl]; rfl
  have hc : bt s 0 = c := by rw [bt_B, hl]; rfl
  unfold lex_one.f
  simp only [hc]
  refine ev_pos (by omega) ?_
  refine ev_one (small_f _) ?_
  rw [hl]
  simp only [one]
  have w1 := whole_c168 s hs 0 12 (by omega) (by omega)
  have w2 := whole_c172 s hs 0 16 (by omega) (by omega)
  have w3 := whole_c169 s hs 0 19 (by omega) (by omega)
  rw [List.drop_zero, hl] at w1 w2 w3
  have ha := fun n => alone_f s n
  simp only [hl] at ha
  by_cases h1 : small c = true
  · refine ev_pos h1 ?_
    rw [if_pos h1]
    refine Ev.bind w1 ?_
    refine ev_one (ha _) ?_
    exact Ev.now _
  · refine ev_neg h1 ?_
    rw [if_neg h1]
    refine ev_one (capital_f _) ?_
    by_cases h2 : capital c = true
    · refine ev_pos h2 ?_
      rw [if_pos h2]
      refine Ev.bind w2 ?_
      refine ev_one (ha _) ?_
      exact Ev.now _
    · refine ev_neg h2 ?_
      rw [if_neg h2]
      by_cases h3 : c = 48
      · refine ev_pos h3 ?_
        rw [if_pos h3]
        refine ev_one (ha 1) ?_
        exact Ev.now _
      · refine ev_neg h3 ?_
        rw [if_neg h3]
        refine ev_one (digit_f _) ?_
        by_cases h4 : digit c = true
        · refine ev_pos h4 ?_
          rw [if_pos h4]
          refine Ev.bind w3 ?_
          refine ev_one (ha _) ?_
          exact Ev.now _
        · refine ev_neg h4 ?_
          rw [if_neg h4]
          by_cases h5 : c = 39
          · refine ev_pos h5 ?_
            rw [if_pos h5]
            refine Ev.bind (quoted_f s hs c t hl) ?_
            exact Ev.now _
          · refine ev_neg h5 ?_
            rw [if_neg h5]
            by_cases h6 : c = 36
            · refine ev_pos h6 ?_
              rw [if_pos h6]
              have hj : ∀ b : Bool, b = decide (par t = 0) → Ev (fun k => lex_one.j0 k s b) ((5 : Int), ((if par t = 0 then 0 else alone (c :: t) 2 : Nat) : Int)) := by
                intro b hbb
                subst hbb
                refine Ev.step (fun k => lex_one.j0.eq_2 ..) ?_
                by_cases hp : par t = 0
                · refine ev_pos (by simp [hp]) ?_
                  rw [if_pos hp]
                  exact Ev.now _
                · refine ev_neg (by simp [hp]) ?_
                  rw [if_neg hp]
                  refine ev_one (ha 2) ?_
                  exact Ev.now _
              cases t with
              | nil =>
                refine ev_pos (by simp at hlen; omega) ?_
                exact hj true (by simp [par])
              | cons d u =>
                have hd : bt s 1 = d := by rw [bt_B, hl]; rfl
                simp only [hd]
                simp only [List.length_cons] at hlen
                refine ev_neg (by omega) ?_
                refine ev_pos (by omega) ?_
                by_cases h7 : d < 49
                · refine ev_pos h7 ?_
                  exact hj true (by simp [par, show ¬ (49 : Int) ≤ d by omega])
                · refine ev_neg h7 ?_
                  refine hj _ ?_
                  simp only [par, show (49 : Int) ≤ d by omega, true_and]
                  by_cases h8 : d ≤ 54
                  · simp [h8, show ¬ (54 : Int) < d by omega]
                  · simp [h8, show (54 : Int) < d by omega]
            · refine ev_neg h6 ?_
              rw [if_neg h6]
              have := sign_f s
              rw [hl] at this
              refine ev_one this ?_
              exact Ev.now _
theorem one_kind (l : List Int) : (one l).1 ≠ 7 := by
  match l with
  | [] => simp [one]
  | c :: t =>
    simp only [one]
    repeat' split
    all_goals simp

end Go.Proofs.Ytbmgenifdlgbmaa.Lex
