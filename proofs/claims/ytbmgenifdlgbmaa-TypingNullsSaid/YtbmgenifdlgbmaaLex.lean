/- Tokens in plain words: what begins a text, and what a text is cut into. -/
import Derived.Test.YtbmgenifdlgbmaaAux
import Derived.Test.YtbmgenifdlgbmaaBy
namespace Go.Proofs.Ytbmgenifdlgbmaa.Lex
set_option linter.unusedVariables false
set_option linter.unusedSimpArgs false

def small (c : Int) : Bool := decide (97 ≤ c) && decide (c ≤ 122)
def capital (c : Int) : Bool := decide (65 ≤ c) && decide (c ≤ 90)
def digit (c : Int) : Bool := decide (48 ≤ c) && decide (c ≤ 57)
def named (c : Int) : Bool := small c || digit c || c == 95
def keyed (c : Int) : Bool := capital c || c == 95
def glued (c : Int) : Bool := small c || capital c || digit c || c == 95 || c == 36
def blank (c : Int) : Bool := c == 32 || c == 10
/-- how many of the first are so, at most so many -/
def cw (p : Int → Bool) : Nat → List Int → Nat
  | 0, _ => 0
  | _ + 1, [] => 0
  | m + 1, c :: l => if p c then cw p m l + 1 else 0
def alone (l : List Int) (n : Nat) : Nat := match l.drop n with
  | [] => n
  | c :: _ => if glued c then 0 else n
/-- how many bytes lie behind the opening quote, the closing one among them -/
def qt : List Int → Option Nat
  | [] => none
  | [c] => if c < 32 ∨ 126 < c then none else if c = 39 then some 1 else none
  | c :: d :: l => if c < 32 ∨ 126 < c then none else if c = 39 then (if d = 39 then (qt l).map (· + 2) else some 1) else (qt (d :: l)).map (· + 1)
def sg2 (c d : Int) : Bool := (c == 60 && d == 62) || (c == 60 && d == 61) || (c == 62 && d == 61) || (c == 124 && d == 124)
def sg1 (c : Int) : Bool := c == 40 || c == 41 || c == 44 || c == 61 || c == 60 || c == 62 || c == 43 || c == 45 || c == 42 || c == 47 || c == 37
def sg : List Int → Nat
  | [] => 0
  | [c] => if sg1 c then 1 else 0
  | c :: d :: _ => if sg2 c d then 2 else if sg1 c then 1 else 0
def par : List Int → Nat
  | d :: _ => if 49 ≤ d ∧ d ≤ 54 then 2 else 0
  | [] => 0
/-- the kind of what begins a text, and how long it is -/
def one : List Int → Int × Nat
  | [] => (0, 0)
  | c :: t =>
    if small c then (1, alone (c :: t) (cw named 12 (c :: t)))
    else if capital c then (2, alone (c :: t) (cw keyed 16 (c :: t)))
    else if c = 48 then (3, alone (c :: t) 1)
    else if digit c then (3, alone (c :: t) (cw digit 19 (c :: t)))
    else if c = 39 then (4, ((qt t).map (· + 1)).getD 0)
    else if c = 36 then (5, if par t = 0 then 0 else alone (c :: t) 2)
    else (6, sg (c :: t))

theorem cw_le (p : Int → Bool) : ∀ (m : Nat) (l : List Int), cw p m l ≤ l.length
  | 0, _ => by simp [cw]
  | _ + 1, [] => by simp [cw]
  | m + 1, c :: l => by
    have := cw_le p m l
    simp only [cw, List.length_cons]
    split <;> omega
theorem cw_back (p : Int → Bool) (b : List Int) (hb : ∀ c t, b = c :: t → p c = false) : ∀ (m : Nat) (l : List Int), cw p m (l ++ b) = cw p m l
  | 0, _ => by simp [cw]
  | m + 1, [] => by
    cases b with
    | nil => simp [cw]
    | cons c t => simp [cw, hb c t rfl]
  | m + 1, c :: l => by
    have := cw_back p b hb m l
    simp only [List.cons_append, cw, this]
theorem cw_take (p : Int → Bool) : ∀ (m : Nat) (l : List Int), cw p m (l.take (cw p m l)) = cw p m l
  | 0, _ => by simp [cw]
  | _ + 1, [] => by simp [cw]
  | m + 1, c :: l => by
    have := cw_take p m l
    by_cases h : p c
    · simp [cw, h, this]
    · simp [cw, h]
theorem cw_front (p : Int → Bool) (l : List Int) : ∀ (f : List Int) (m : Nat), (∀ c ∈ f, p c = true) → cw p (f.length + m) (f ++ l) = f.length + cw p m l
  | [], m, _ => by simp
  | c :: f, m, h => by
    have := cw_front p l f m (fun x hx => h x (List.mem_cons_of_mem _ hx))
    have e : (c :: f).length + m = (f.length + m) + 1 := by simp; omega
    rw [e]
    simp only [List.cons_append, cw, h c List.mem_cons_self, if_true, this, List.length_cons]
    omega
theorem cw_more (p : Int → Bool) : ∀ (m : Nat) (l : List Int), l.length ≤ m → ∀ m', l.length ≤ m' → cw p m l = cw p m' l
  | 0, l, h, m', _ => by
    have : l = [] := List.eq_nil_of_length_eq_zero (by omega)
    subst this
    cases m' <;> simp [cw]
  | m + 1, [], _, m', _ => by cases m' <;> simp [cw]
  | m + 1, c :: l, h, 0, h' => by simp at h'
  | m + 1, c :: l, h, m' + 1, h' => by
    simp only [List.length_cons] at h h'
    simp only [cw]
    rw [cw_more p m l (by omega) m' (by omega)]
theorem alone_is (l : List Int) (n : Nat) : alone l n = 0 ∨ alone l n = n := by
  unfold alone
  split
  · exact .inr rfl
  · split
    · exact .inl rfl
    · exact .inr rfl
theorem alone_back (b : List Int) (hb : ∀ c t, b = c :: t → glued c = false) (l : List Int) (n : Nat) (h : n ≤ l.length) : alone (l ++ b) n = alone l n := by
  unfold alone
  rw [List.drop_append_of_le_length h]
  cases hl : l.drop n with
  | nil =>
    cases b with
    | nil => rfl
    | cons c t => simp [hb c t rfl]
  | cons c t => rfl
theorem alone_take (l : List Int) (n : Nat) : alone (l.take n) n = n := by
  unfold alone
  rw [List.drop_eq_nil_of_le (by simp; omega)]
def isB (b : List Int) : Prop := ∀ c t, b = c :: t → blank c = true
theorem blank_is {c : Int} (h : blank c = true) : c = 32 ∨ c = 10 := by simpa [blank] using h
theorem isB_no {b : List Int} (hb : isB b) {p : Int → Bool} (h32 : p 32 = false) (h10 : p 10 = false) : ∀ c t, b = c :: t → p c = false := by
  intro c t e
  rcases blank_is (hb c t e) with rfl | rfl
  · exact h32
  · exact h10
theorem qt_le : ∀ (n : Nat) (l : List Int), l.length ≤ n → ∀ k, qt l = some k → 1 ≤ k ∧ k ≤ l.length := by
  intro n
  induction n with
  | zero =>
    intro l h k hk
    have : l = [] := List.eq_nil_of_length_eq_zero (by omega)
    subst this
    simp [qt] at hk
  | succ n ih =>
    intro l h k hk
    match l, h, hk with
    | [], h, hk => simp [qt] at hk
    | [c], h, hk =>
      simp only [qt] at hk
      split at hk
      · exact absurd hk (by simp)
      · split at hk
        · simp at hk
          simp
          omega
        · exact absurd hk (by simp)
    | c :: d :: l, h, hk =>
      simp only [List.length_cons] at h ⊢
      simp only [qt] at hk
      split at hk
      · exact absurd hk (by simp)
      · split at hk
        · split at hk
          · rw [Option.map_eq_some_iff] at hk
            obtain ⟨j, hj, rfl⟩ := hk
            have := ih l (by omega) j hj
            omega
          · simp at hk
            omega
        · rw [Option.map_eq_some_iff] at hk
          obtain ⟨j, hj, rfl⟩ := hk
          have := ih (d :: l) (by simp; omega) j hj
          simp at this
          omega
theorem qt_blanks : ∀ (b : List Int), (∀ c ∈ b, blank c = true) → qt b = none
  | [], _ => rfl
  | [c], h => by
    rcases blank_is (h c (by simp)) with rfl | rfl <;> simp [qt]
  | c :: d :: l, h => by
    have := qt_blanks (d :: l) (fun x hx => h x (List.mem_cons_of_mem _ hx))
    rcases blank_is (h c (by simp)) with rfl | rfl <;> simp [qt, this]
theorem qt_back (b : List Int) (hb : ∀ c ∈ b, blank c = true) : ∀ (n : Nat) (l : List Int), l.length ≤ n → qt (l ++ b) = qt l := by
  intro n
  induction n with
  | zero =>
    intro l h
    have : l = [] := List.eq_nil_of_length_eq_zero (by omega)
    subst this
    simp [qt, qt_blanks b hb]
  | succ n ih =>
    intro l h
    match l, h with
    | [], h => simp [qt, qt_blanks b hb]
    | [c], h =>
      cases b with
      | nil => rfl
      | cons x b =>
        have hx : x ≠ 39 := by rcases blank_is (hb x (by simp)) with rfl | rfl <;> omega
        have h2 := qt_blanks (x :: b) hb
        simp only [List.cons_append, List.nil_append, qt, h2, hx, if_false, Option.map_none]
    | c :: d :: l, h =>
      simp only [List.length_cons] at h
      have h1 := ih l (by omega)
      have h2 := ih (d :: l) (by simp; omega)
      simp only [List.cons_append, qt, h1] at h2 ⊢
      rw [h2]
theorem qt_stop (b : List Int) (hb : isB b) : ∀ (n : Nat) (l : List Int), l.length ≤ n → ∀ k, qt l = some k → qt (l ++ b) = some k := by
  intro n
  induction n with
  | zero =>
    intro l h k hk
    have : l = [] := List.eq_nil_of_length_eq_zero (by omega)
    subst this
    simp [qt] at hk
  | succ n ih =>
    intro l h k hk
    match l, h, hk with
    | [], h, hk => simp [qt] at hk
    | [c], h, hk =>
      cases b with
      | nil => exact hk
      | cons x b =>
        have hx : x ≠ 39 := by rcases blank_is (hb x b rfl) with rfl | rfl <;> omega
        simp only [qt] at hk
        simp only [List.cons_append, List.nil_append, qt, hx, if_false]
        split at hk
        · exact absurd hk (by simp)
        · rename_i hc
          split at hk
          · rename_i h39
            simp [h39] at hk ⊢
            exact hk
          · exact absurd hk (by simp)
    | c :: d :: l, h, hk =>
      simp only [List.length_cons] at h
      simp only [qt] at hk
      simp only [List.cons_append, qt]
      split at hk
      · exact absurd hk (by simp)
      · rename_i hc
        rw [if_neg hc]
        split at hk
        · rename_i h39
          rw [if_pos h39]
          split at hk
          · rename_i hd
            rw [if_pos hd]
            rw [Option.map_eq_some_iff] at hk
            obtain ⟨j, hj, rfl⟩ := hk
            rw [ih l (by omega) j hj]
            rfl
          · rename_i hd
            rw [if_neg hd]
            exact hk
        · rename_i h39
          rw [if_neg h39]
          rw [Option.map_eq_some_iff] at hk
          obtain ⟨j, hj, rfl⟩ := hk
          have := ih (d :: l) (by simp; omega) j hj
          rw [List.cons_append] at this
          rw [this]
          rfl
theorem qt_take : ∀ (n : Nat) (l : List Int), l.length ≤ n → ∀ k, qt l = some k → qt (l.take k) = some k := by
  intro n
  induction n with
  | zero =>
    intro l h k hk
    have : l = [] := List.eq_nil_of_length_eq_zero (by omega)
    subst this
    simp [qt] at hk
  | succ n ih =>
    intro l h k hk
    match l, h, hk with
    | [], h, hk => simp [qt] at hk
    | [c], h, hk =>
      have := (qt_le 1 [c] (by simp) k hk)
      simp at this
      have : k = 1 := by omega
      subst this
      exact hk
    | c :: d :: l, h, hk =>
      simp only [List.length_cons] at h
      simp only [qt] at hk
      split at hk
      · exact absurd hk (by simp)
      · rename_i hc
        split at hk
        · rename_i h39
          split at hk
          · rename_i hd
            rw [Option.map_eq_some_iff] at hk
            obtain ⟨j, hj, rfl⟩ := hk
            have := ih l (by omega) j hj
            simp only [List.take_succ_cons, qt, if_neg hc, if_pos h39, if_pos hd, this]
            rfl
          · simp at hk
            subst hk
            simp only [List.take_succ_cons, List.take_zero, qt, if_neg hc, if_pos h39]
        · rename_i h39
          rw [Option.map_eq_some_iff] at hk
          obtain ⟨j, hj, rfl⟩ := hk
          have h1 := ih (d :: l) (by simp; omega) j hj
          have h2 := qt_le _ (d :: l) (Nat.le_refl _) j hj
          obtain ⟨i, rfl⟩ : ∃ i, j = i + 1 := ⟨j - 1, by omega⟩
          rw [List.take_succ_cons] at h1
          rw [List.take_succ_cons, List.take_succ_cons]
          simp only [qt, if_neg hc, if_neg h39, h1]
          rfl
theorem sg_le (l : List Int) : sg l ≤ l.length := by
  match l with
  | [] => simp [sg]
  | [c] => simp only [sg, List.length_cons]; split <;> omega
  | c :: d :: t =>
    simp only [sg, List.length_cons]
    repeat' split
    all_goals omega
theorem sg2_blank {c x : Int} (h : blank x = true) : sg2 c x = false := by
  rcases blank_is h with rfl | rfl <;> simp [sg2]
theorem sg_back (b : List Int) (hb : isB b) (l : List Int) (h : l ≠ []) : sg (l ++ b) = sg l := by
  match l, h with
  | [c], _ =>
    cases b with
    | nil => rfl
    | cons x b => simp [sg, sg2_blank (hb x b rfl)]
  | c :: d :: t, _ => rfl
theorem sg_take (l : List Int) : sg (l.take (sg l)) = sg l := by
  match l with
  | [] => rfl
  | [c] =>
    by_cases h : sg1 c = true
    · have e : sg [c] = 1 := by simp [sg, h]
      rw [e]
      exact e
    · have e : sg [c] = 0 := by simp [sg, h]
      rw [e]
      rfl
  | c :: d :: t =>
    by_cases h : sg2 c d = true
    · have e : sg (c :: d :: t) = 2 := by simp [sg, h]
      rw [e]
      simp [sg, h]
    · by_cases h1 : sg1 c = true
      · have e : sg (c :: d :: t) = 1 := by simp [sg, h, h1]
        rw [e]
        simp [sg, h1]
      · have e : sg (c :: d :: t) = 0 := by simp [sg, h, h1]
        rw [e]
        rfl

theorem par_is (t : List Int) : par t = 0 ∨ (par t = 2 ∧ ∃ d u, t = d :: u ∧ 49 ≤ d ∧ d ≤ 54) := by
  match t with
  | [] => exact .inl rfl
  | d :: u =>
    by_cases h : 49 ≤ d ∧ d ≤ 54
    · exact .inr ⟨by simp [par, h], d, u, rfl, h⟩
    · exact .inl (by simp [par, h])
theorem one_le (l : List Int) : (one l).2 ≤ l.length := by
  match l with
  | [] => simp [one]
  | c :: t =>
    have ha : ∀ n, n ≤ (c :: t).length → alone (c :: t) n ≤ (c :: t).length := by
      intro n hn
      rcases alone_is (c :: t) n with h | h <;> omega
    simp only [one]
    split
    · exact ha _ (cw_le _ _ _)
    · split
      · exact ha _ (cw_le _ _ _)
      · split
        · exact ha _ (by simp)
        · split
          · exact ha _ (cw_le _ _ _)
          · split
            · show ((qt t).map (· + 1)).getD 0 ≤ _
              cases h : qt t with
              | none => simp
              | some k =>
                have := qt_le _ t (Nat.le_refl _) k h
                simp
                omega
            · split
              · show (if par t = 0 then 0 else alone (c :: t) 2) ≤ _
                rcases par_is t with h | ⟨h, d, u, rfl, _⟩
                · rw [if_pos h]
                  omega
                · rw [if_neg (by omega)]
                  exact ha _ (by simp)
              · exact sg_le _
/-- what follows a token changes nothing, if it begins with a blank, and a quoted text has its end already or all of it are blanks -/
theorem one_back (b : List Int) (hb : isB b) (l : List Int) (hl : l ≠ []) (hq : ∀ t, l = 39 :: t → qt (t ++ b) = qt t) : one (l ++ b) = one l := by
  match l, hl with
  | c :: t, _ =>
    have a1 : ∀ n, n ≤ (c :: t).length → alone (c :: (t ++ b)) n = alone (c :: t) n := by
      intro n hn
      exact alone_back b (isB_no hb (by decide) (by decide)) (c :: t) n hn
    have k1 := cw_back named b (isB_no hb (by decide) (by decide)) 12 (c :: t)
    have k2 := cw_back keyed b (isB_no hb (by decide) (by decide)) 16 (c :: t)
    have k3 := cw_back digit b (isB_no hb (by decide) (by decide)) 19 (c :: t)
    have k4 := sg_back b hb (c :: t) (by simp)
    rw [List.cons_append] at k1 k2 k3 k4 ⊢
    simp only [one]
    rw [k1, k2, k3, k4, a1 _ (cw_le _ _ _), a1 _ (cw_le _ _ _), a1 _ (cw_le _ _ _), a1 1 (by simp)]
    by_cases h39 : c = 39
    · rw [hq t (by rw [h39])]
      have : c ≠ 36 := by omega
      simp only [this, if_false]
    · simp only [h39, if_false]
      have : par (t ++ b) = par t := by
        match t with
        | d :: u => rfl
        | [] =>
          cases b with
          | nil => rfl
          | cons x b =>
            rcases blank_is (hb x b rfl) with rfl | rfl <;> simp [par]
      rw [this]
      by_cases h36 : c = 36
      · have h2 : (if par t = 0 then 0 else alone (c :: (t ++ b)) 2) = (if par t = 0 then 0 else alone (c :: t) 2) := by
          rcases par_is t with h | ⟨h, d, u, e, _⟩
          · simp [h]
          · rw [a1 2 (by rw [e]; simp)]
        rw [h2]
      · simp only [h36, if_false]
theorem one_blanks (b : List Int) (hb : ∀ c ∈ b, blank c = true) (l : List Int) (hl : l ≠ []) : one (l ++ b) = one l :=
  one_back b (fun c t e => hb c (by rw [e]; simp)) l hl (fun t _ => qt_back b hb _ t (Nat.le_refl _))
theorem one_next (b : List Int) (hb : isB b) (l : List Int) (hl : (one l).2 = l.length) (hn : l ≠ []) : one (l ++ b) = one l := by
  refine one_back b hb l hn (fun t e => ?_)
  subst e
  cases h : qt t with
  | none =>
    have : (one (39 :: t)).2 = 0 := by simp [one, small, capital, digit, h]
    rw [this] at hl
    simp at hl
  | some k => exact qt_stop b hb _ t (Nat.le_refl _) k h
theorem one_take (l : List Int) (h : (one l).2 ≠ 0) : one (l.take (one l).2) = one l := by
  match l with
  | [] => rfl
  | c :: t =>
    have ht : ∀ n, n ≠ 0 → (c :: t).take n = c :: t.take (n - 1) := by
      intro n hn
      cases n with
      | zero => exact absurd rfl hn
      | succ n => rfl
    have al : ∀ n, alone (c :: t) n ≠ 0 → alone (c :: t) n = n := by
      intro n h1
      rcases alone_is (c :: t) n with h | h
      · exact absurd h h1
      · exact h
    by_cases h1 : small c
    · have e : one (c :: t) = (1, alone (c :: t) (cw named 12 (c :: t))) := by simp [one, h1]
      rw [e] at h ⊢
      have ha := al _ h
      simp only [] at h ⊢
      rw [ha] at h ⊢
      have hc := cw_take named 12 (c :: t)
      have h2 := alone_take (c :: t) (cw named 12 (c :: t))
      rw [ht _ h] at hc h2 ⊢
      simp only [one, h1, if_true, hc, h2]
    · by_cases h2 : capital c
      · have e : one (c :: t) = (2, alone (c :: t) (cw keyed 16 (c :: t))) := by simp [one, h1, h2]
        rw [e] at h ⊢
        have ha := al _ h
        simp only [] at h ⊢
        rw [ha] at h ⊢
        have hc := cw_take keyed 16 (c :: t)
        have h3 := alone_take (c :: t) (cw keyed 16 (c :: t))
        rw [ht _ h] at hc h3 ⊢
        simp only [one, h1, h2, if_true, hc, h3]
        simp
      · by_cases h3 : c = 48
        · have e : one (c :: t) = (3, alone (c :: t) 1) := by subst h3; simp [one, small, capital]
          rw [e] at h ⊢
          have ha := al _ h
          simp only [] at h ⊢
          rw [ha]
          have h4 := alone_take (c :: t) 1
          rw [ht 1 (by omega)] at h4 ⊢
          simp only [one, h1, h2, h4]
          simp [h3]
        · by_cases h4 : digit c
          · have e : one (c :: t) = (3, alone (c :: t) (cw digit 19 (c :: t))) := by simp [one, h1, h2, h3, h4]
            rw [e] at h ⊢
            have ha := al _ h
            simp only [] at h ⊢
            rw [ha] at h ⊢
            have hc := cw_take digit 19 (c :: t)
            have h5 := alone_take (c :: t) (cw digit 19 (c :: t))
            rw [ht _ h] at hc h5 ⊢
            simp only [one, h1, h2, h3, h4, if_true, hc, h5]
            simp
          · by_cases h5 : c = 39
            · have e : one (c :: t) = (4, ((qt t).map (· + 1)).getD 0) := by subst h5; simp [one, small, capital, digit]
              rw [e] at h ⊢
              cases hk : qt t with
              | none => rw [hk] at h; simp at h
              | some k =>
                have h6 := qt_take _ t (Nat.le_refl _) k hk
                simp only [Option.map_some, Option.getD_some]
                rw [ht _ (by omega)]
                have : t.take (k + 1 - 1) = t.take k := by congr 1
                rw [this]
                simp only [one, h1, h2, h3, h4, h6]
                simp [h5]
            · by_cases h6 : c = 36
              · have e : one (c :: t) = (5, if par t = 0 then 0 else alone (c :: t) 2) := by subst h6; simp [one, small, capital, digit]
                rw [e] at h ⊢
                rcases par_is t with hp | ⟨hp, d, u, rfl, hd⟩
                · rw [if_pos hp] at h
                  exact absurd rfl h
                · have hp0 : ¬ par (d :: u) = 0 := by omega
                  simp only [if_neg hp0] at h ⊢
                  have ha := al _ h
                  rw [ha]
                  have h7 := alone_take (c :: d :: u) 2
                  simp only [List.take_succ_cons, List.take_zero] at h7 ⊢
                  have hp1 : ¬ par [d] = 0 := by simp [par, hd]
                  subst h6
                  simp [one, small, capital, digit, hp1, h7]
              · have e : one (c :: t) = (6, sg (c :: t)) := by simp [one, h1, h2, h3, h4, h5, h6]
                rw [e] at h ⊢
                have h7 := sg_take (c :: t)
                simp only [] at h ⊢
                rw [ht _ h] at h7 ⊢
                simp only [one, h1, h2, h3, h4, h5, h6, h7]
                simp
end Go.Proofs.Ytbmgenifdlgbmaa.Lex
