/- Bytes that stand ahead of others, plainly, and that they do as the values do. -/
import Derived.Test.YtlbjipdkihoojaaKeysGet
namespace Go.Proofs.Ytlbjipdkihoojaa.KeysW
set_option linter.unusedVariables false
set_option linter.unusedSimpArgs false
open Go Go.RowKit Go.Proofs.Ytlbjipdkihoojaa.Q Go.Proofs.YtlbjipdkihoojaaW.PrintWords Go.Proofs.Ytlbjipdkihoojaa.Aux Go.Proofs.Ytlbjipdkihoojaa.By

/-- does a list begin with another? -/
def begins (b a : List Int) : Bool := decide (b.take a.length = a)
theorem begins_nil (b : List Int) : begins b [] = true := by simp [begins]
theorem begins_none (c : Int) (a : List Int) : begins [] (c :: a) = false := by simp [begins]
theorem begins_cons (d c : Int) (b a : List Int) : begins (d :: b) (c :: a) = (decide (d = c) && begins b a) := by
  rw [Bool.eq_iff_iff]
  simp [begins]
theorem begins_app (p s : List Int) : begins (p ++ s) p = true := by simp [begins]
/-- does a list stand ahead of another? -/
def below : List Int → List Int → Bool
  | [], [] => false
  | [], _ :: _ => true
  | _ :: _, [] => false
  | c :: a, d :: b => if c = d then below a b else decide (c < d)
theorem below_nil (a : List Int) : below a [] = false := by cases a <;> rfl
theorem below_app : ∀ (p : List Int) (c d : Int) (s t : List Int), c ≠ d → below (p ++ c :: s) (p ++ d :: t) = decide (c < d)
  | [], c, d, s, t, h => by simp [below, h]
  | x :: p, c, d, s, t, h => by
    simp only [List.cons_append, below, if_true]
    exact below_app p c d s t h
theorem begins_app_not : ∀ (p : List Int) (c d : Int) (s t : List Int), c ≠ d → begins (p ++ c :: s) (p ++ d :: t) = false
  | [], c, d, s, t, h => by simp [begins_cons, h]
  | x :: p, c, d, s, t, h => by
    simp only [List.cons_append, begins_cons, decide_true, Bool.true_and]
    exact begins_app_not p c d s t h
theorem below_ones : ∀ (j : Nat) (t : List Int), isB t → (!(below t (List.replicate j 255))) = begins t (List.replicate j 255)
  | 0, t, h => by simp [below_nil, begins_nil]
  | j + 1, [], h => by simp [List.replicate_succ, below, begins_none]
  | j + 1, e :: t, h => by
    have he := h e List.mem_cons_self
    have ih := below_ones j t (fun x hx => h x (List.mem_cons_of_mem _ hx))
    rw [List.replicate_succ, begins_cons, below]
    by_cases h1 : e = 255
    · rw [if_pos h1, ih]
      simp [h1]
    · rw [if_neg h1]
      have : e < 255 := by omega
      simp [h1, this]
theorem below_next : ∀ (q b : List Int) (c : Int) (j : Nat), isB b → (below b (q ++ [c + 1]) && !(below b (q ++ c :: List.replicate j 255))) = begins b (q ++ c :: List.replicate j 255)
  | [], [], c, j, hb => by simp [below, begins_none]
  | [], d :: b, c, j, hb => by
    have ih := below_ones j b (fun x hx => hb x (List.mem_cons_of_mem _ hx))
    simp only [List.nil_append, below, begins_cons]
    by_cases h1 : d = c + 1
    · have h2 : ¬ d = c := by omega
      rw [if_pos h1, below_nil]
      simp [h2]
    · rw [if_neg h1]
      by_cases h2 : d = c
      · rw [if_pos h2, ih]
        have : d < c + 1 := by omega
        have h3 : c < c + 1 := by omega
        simp [this, h2, h3]
      · rw [if_neg h2]
        by_cases h3 : d < c
        · have : d < c + 1 := by omega
          simp [h2, h3]
        · have : ¬ d < c + 1 := by omega
          simp [h2, this]
  | x :: q, [], c, j, hb => by simp [below, begins_none]
  | x :: q, d :: b, c, j, hb => by
    have ih := below_next q b c j (fun x hx => hb x (List.mem_cons_of_mem _ hx))
    simp only [List.cons_append, below, begins_cons]
    by_cases h1 : d = x
    · rw [if_pos h1, if_pos h1, ih]
      simp [h1]
    · rw [if_neg h1, if_neg h1]
      simp [h1]
theorem split_ones : ∀ (a : List Int), isB a → (∃ n, a = List.replicate n 255) ∨ ∃ q c j, a = q ++ c :: List.replicate j 255 ∧ 0 ≤ c ∧ c < 255
  | [], h => .inl ⟨0, rfl⟩
  | x :: t, h => by
    have hx := h x List.mem_cons_self
    rcases split_ones t (fun y hy => h y (List.mem_cons_of_mem _ hy)) with ⟨n, hn⟩ | ⟨q, c, j, e, h0, h1⟩
    · by_cases h2 : x = 255
      · exact .inl ⟨n + 1, by rw [List.replicate_succ, h2, hn]⟩
      · exact .inr ⟨[], x, n, by rw [hn]; rfl, by omega, by omega⟩
    · exact .inr ⟨x :: q, c, j, by rw [e]; rfl, h0, h1⟩
theorem bytes_inj {a b : List Int} (ha : isB a) (hb : isB b) (h : strOfNums a = strOfNums b) : a = b := by
  have h1 := B_ofNums ha
  have h2 := B_ofNums hb
  rw [← h1, ← h2, h]
theorem begins_f (b a : List Int) (hb : isB b) (ha : isB a) : keys_Begins.f b a = some (begins b a) := by
  unfold keys_Begins.f bytes_HasPrefix.f bytes_Equal.f begins
  by_cases h : a.length ≤ b.length
  · rw [if_pos (by omega), if_pos (by omega), if_pos (by omega)]
    simp only [Option.bind_some, Int.toNat_natCast]
    congr 1
    rw [Bool.eq_iff_iff]
    simp only [beq_iff_eq, decide_eq_true_eq, toList_eq_iff]
    exact ⟨fun e => bytes_inj (isB_take hb _) ha e, fun e => by rw [e]⟩
  · rw [if_neg (by omega)]
    simp only [Option.bind_some]
    congr 1
    symm
    rw [decide_eq_false_iff_not]
    intro e
    have := congrArg List.length e
    rw [List.length_take] at this
    omega
theorem below_l (a b : List Int) (ha : a.length ≤ 100000) (hb : b.length ≤ 100000) : ∀ (m i : Nat), i + m = a.length → Ev (fun k => registrarref04_Below.l0 k a b i) (below (a.drop i) (b.drop i))
  | m, i, hi => by
    have e2 : wrap64 ((i : Int) + 1) = ((i + 1 : Nat) : Int) := by rw [wrap_in (by omega) (by omega)]; omega
    have hd : ∀ x, x = decide ((i : Int) < b.length) → Ev (fun k => registrarref04_Below.j1 k a b i x) (below (a.drop i) (b.drop i)) → i < a.length → Ev (fun k => registrarref04_Below.l0 k a b i) (below (a.drop i) (b.drop i)) := by
      intro x hx h hlt
      refine Ev.step (fun k => registrarref04_Below.l0.eq_2 ..) ?_
      refine ev_pos (by omega) ?_
      rw [← hx]
      exact h
    cases m with
    | zero =>
      refine Ev.step (fun k => registrarref04_Below.l0.eq_2 ..) ?_
      refine ev_neg (by omega) ?_
      refine Ev.step (fun k => registrarref04_Below.j1.eq_2 ..) ?_
      refine ev_neg (by decide) ?_
      rw [List.drop_eq_nil_of_le (by omega : a.length ≤ i)]
      refine ev_to (Ev.now _) ?_
      by_cases hlt : i < b.length
      · rw [List.drop_eq_getElem_cons hlt, below]
        simp
        omega
      · rw [List.drop_eq_nil_of_le (by omega), below]
        simp
        omega
    | succ m =>
      have hlt : i < a.length := by omega
      have e1 : rd a (i : Int) = a[i] := by simp [rd, List.getD_eq_getElem?_getD, hlt]
      refine hd _ rfl ?_ hlt
      refine Ev.step (fun k => registrarref04_Below.j1.eq_2 ..) ?_
      rw [List.drop_eq_getElem_cons hlt]
      by_cases hlb : i < b.length
      · have e3 : rd b (i : Int) = b[i] := by simp [rd, List.getD_eq_getElem?_getD, hlb]
        rw [e1, e3, List.drop_eq_getElem_cons hlb, below, e2]
        refine ev_pos (by simp; omega) ?_
        refine ev_pos (by omega) ?_
        refine ev_pos (by omega) ?_
        refine ev_pos (by omega) ?_
        by_cases he : a[i] = b[i]
        · refine ev_pos he ?_
          rw [if_pos he]
          exact below_l a b ha hb m (i + 1) (by omega)
        · refine ev_neg he ?_
          rw [if_neg he]
          exact Ev.now _
      · rw [List.drop_eq_nil_of_le (by omega : b.length ≤ i), below]
        refine ev_neg (by simp; omega) ?_
        refine ev_to (Ev.now _) ?_
        simp
        omega
theorem below_f (a b : List Int) (ha : a.length ≤ 100000) (hb : b.length ≤ 100000) : Ev (fun k => registrarref04_Below.f k a b) (below a b) := below_l a b ha hb a.length 0 (by omega)
theorem next_nil : Ev (fun k => keys_Next.f k []) [] := by
  unfold keys_Next.f
  refine Ev.step (fun k => keys_Next.l0.eq_2 ..) ?_
  refine ev_neg (by decide) ?_
  exact ev_pos rfl (Ev.now _)
theorem next_l (q : List Int) (c : Int) (j : Nat) (h0 : 0 ≤ c) (h1 : c < 255) (hl : q.length + j ≤ 100000) : ∀ (i : Nat), i ≤ j → Ev (fun k => keys_Next.l0 k (q ++ c :: List.replicate j 255) ((q.length + 1 + i : Nat) : Int)) (q ++ [c + 1])
  | i, hi => by
    have hlen : (q ++ c :: List.replicate j 255).length = q.length + 1 + j := by simp; omega
    have ew : wrap64 (((q.length + 1 + i : Nat) : Int) - 1) = ((q.length + i : Nat) : Int) := by rw [wrap_in (by omega) (by omega)]; omega
    refine Ev.step (fun k => keys_Next.l0.eq_2 ..) ?_
    rw [ew, hlen]
    refine ev_pos (by omega) ?_
    refine ev_pos (by omega) ?_
    refine ev_pos (by omega) ?_
    cases i with
    | zero =>
      have e1 : rd (q ++ c :: List.replicate j 255) ((q.length + 0 : Nat) : Int) = c := rd_mid q c _
      rw [e1]
      refine ev_neg (by omega) ?_
      refine ev_neg (by omega) ?_
      refine ev_pos (by omega) ?_
      refine ev_pos (by omega) ?_
      have et : (q ++ c :: List.replicate j 255).take (((q.length + 1 + 0 : Nat) : Int)).toNat = q ++ [c] := by
        rw [Int.toNat_natCast, Nat.add_zero, List.take_append, List.take_of_length_le (by omega)]
        simp
      have ec : bytes_Clone.f (q ++ [c]) = some (q ++ [c]) := by
        unfold bytes_Clone.f
        simp only [Option.bind_some]
        rw [if_pos (by simp; omega)]
        simp
      rw [et]
      refine ev_one ec ?_
      refine ev_pos (by simp; omega) ?_
      have e3 : rd (q ++ [c]) ((q.length + 0 : Nat) : Int) = c := rd_mid q c _
      rw [e3]
      refine ev_to (Ev.now _) ?_
      rw [Int.toNat_natCast, Nat.add_zero, List.set_append_right _ _ (by omega)]
      simp
      omega
    | succ i =>
      have e1 : rd (q ++ c :: List.replicate j 255) ((q.length + (i + 1) : Nat) : Int) = 255 := by
        simp only [rd, Int.toNat_natCast]
        rw [List.getD_eq_getElem?_getD, List.getElem?_append_right (by omega)]
        rw [show q.length + (i + 1) - q.length = i + 1 by omega, List.getElem?_cons_succ]
        simp [List.getElem?_replicate, show i < j by omega]
      rw [e1]
      refine ev_pos rfl ?_
      rw [show q.length + (i + 1) = q.length + 1 + i by omega]
      exact next_l q c j h0 h1 hl i (by omega)
theorem next_f (q : List Int) (c : Int) (j : Nat) (h0 : 0 ≤ c) (h1 : c < 255) (hl : q.length + j ≤ 100000) : Ev (fun k => keys_Next.f k (q ++ c :: List.replicate j 255)) (q ++ [c + 1]) := by
  have hlen : (q ++ c :: List.replicate j 255).length = q.length + 1 + j := by simp; omega
  have := next_l q c j h0 h1 hl j (Nat.le_refl _)
  unfold keys_Next.f
  rw [hlen]
  exact this
/-- where two lists part, and which is ahead there -/
def Parts (a b : List Int) (r : Bool) : Prop := ∃ p c d s t, a = p ++ c :: s ∧ b = p ++ d :: t ∧ c ≠ d ∧ r = decide (c < d)
theorem Parts.app {a b : List Int} {r : Bool} (h : Parts a b r) (s t : List Int) : Parts (a ++ s) (b ++ t) r := by
  obtain ⟨p, c, d, s', t', e1, e2, e3, e4⟩ := h
  exact ⟨p, c, d, s' ++ s, t' ++ t, by rw [e1]; simp, by rw [e2]; simp, e3, e4⟩
theorem Parts.pre {a b : List Int} {r : Bool} (h : Parts a b r) (q : List Int) : Parts (q ++ a) (q ++ b) r := by
  obtain ⟨p, c, d, s', t', e1, e2, e3, e4⟩ := h
  exact ⟨q ++ p, c, d, s', t', by rw [e1]; simp, by rw [e2]; simp, e3, e4⟩
theorem Parts.below {a b : List Int} {r : Bool} (h : Parts a b r) : below a b = r := by
  obtain ⟨p, c, d, s', t', e1, e2, e3, e4⟩ := h
  rw [e1, e2, below_app p c d s' t' e3, e4]
theorem Parts.begins {a b : List Int} {r : Bool} (h : Parts a b r) : begins a b = false ∧ begins b a = false := by
  obtain ⟨p, c, d, s', t', e1, e2, e3, e4⟩ := h
  rw [e1, e2]
  exact ⟨begins_app_not p c d s' t' e3, begins_app_not p d c t' s' (fun e => e3 e.symm)⟩
theorem Parts.ne {a b : List Int} {r : Bool} (h : Parts a b r) : a ≠ b := by
  intro e
  have := h.begins.1
  rw [e] at this
  have h2 := begins_app b []
  rw [List.append_nil] at h2
  rw [h2] at this
  exact absurd this (by decide)
theorem be_parts : ∀ (i n m : Nat), n ≠ m → n < 256 ^ i → m < 256 ^ i → Parts (X.be i n) (X.be i m) (decide (n < m))
  | 0, n, m, h, hn, hm => by
    exfalso
    simp at hn hm
    omega
  | i + 1, n, m, h, hn, hm => by
    simp only [X.be]
    by_cases hq : n / 256 = m / 256
    · refine ⟨X.be i (n / 256), ((n % 256 : Nat) : Int), ((m % 256 : Nat) : Int), [], [], rfl, by rw [hq], by omega, ?_⟩
      rw [Bool.eq_iff_iff]
      simp only [decide_eq_true_eq]
      omega
    · have ih := be_parts i (n / 256) (m / 256) hq (by rw [Nat.pow_succ] at hn; exact Nat.div_lt_of_lt_mul (by rw [Nat.mul_comm]; exact hn)) (by rw [Nat.pow_succ] at hm; exact Nat.div_lt_of_lt_mul (by rw [Nat.mul_comm]; exact hm))
      have e : decide (n < m) = decide (n / 256 < m / 256) := by
        rw [Bool.eq_iff_iff]
        simp only [decide_eq_true_eq]
        omega
      rw [e]
      exact ih.app _ _
def ints (l : List UInt8) : List Int := l.map (fun b => (b.toNat : Int))
theorem text_parts : ∀ (s t : List UInt8), s ≠ t → plainL (ints s) = true → plainL (ints t) = true → Parts (ints s ++ [0]) (ints t ++ [0]) (Op.bytesLess s t)
  | [], [], h, _, _ => absurd rfl h
  | [], y :: t, h, _, ht => by
    simp [ints, plainL] at ht
    refine ⟨[], 0, (y.toNat : Int), [], ints t ++ [0], rfl, rfl, by omega, ?_⟩
    simp [Op.bytesLess]
    omega
  | x :: s, [], h, hs, _ => by
    simp [ints, plainL] at hs
    refine ⟨[], (x.toNat : Int), 0, ints s ++ [0], [], rfl, rfl, by omega, ?_⟩
    simp [Op.bytesLess]
  | x :: s, y :: t, h, hs, ht => by
    simp only [ints, List.map_cons, plainL, Bool.and_eq_true] at hs ht
    by_cases hxy : x = y
    · subst hxy
      have ih := text_parts s t (fun e => h (by rw [e])) hs.2.2 ht.2.2
      have e : Op.bytesLess (x :: s) (x :: t) = Op.bytesLess s t := by simp [Op.bytesLess]
      rw [e]
      exact ih.pre [(x.toNat : Int)]
    · refine ⟨[], (x.toNat : Int), (y.toNat : Int), ints s ++ [0], ints t ++ [0], rfl, rfl, fun e => hxy (UInt8.toNat_inj.1 (by omega)), ?_⟩
      have : (x == y) = false := by simpa using hxy
      simp only [Op.bytesLess, this, Bool.false_and, Bool.or_false]
      rw [Bool.eq_iff_iff]
      simp only [decide_eq_true_eq, UInt8.lt_iff_toNat_lt]
      omega
/-- does a value stand ahead of another? -/
def less (x y : S45) : Bool := if x.f0 = y.f0 then if x.f1 = y.f1 then Op.bytesLess x.f2.toList y.f2.toList else decide (x.f1 < y.f1) else decide (x.f0 < y.f0)
theorem less_f (x y : S45) : registrarref03_Less.f x.f0 x.f1 x.f2 y.f0 y.f1 y.f2 = some (less x y) := by
  unfold registrarref03_Less.f less
  split
  · split <;> rfl
  · rfl
theorem s45_ext {x y : S45} (h0 : x.f0 = y.f0) (h1 : x.f1 = y.f1) (h2 : x.f2 = y.f2) : x = y := by
  cases x
  cases y
  simp_all
theorem oneB_head (x : S45) (hr : right x = true) : ∃ t, oneB x = (x.f0 + 1) :: t := by
  have hk := right_kind hr
  unfold oneB
  by_cases h1 : x.f0 = 1
  · rw [if_pos h1, h1]
    exact ⟨_, rfl⟩
  · rw [if_neg h1]
    by_cases h2 : x.f0 = 2
    · rw [if_pos h2, h2]
      exact ⟨_, rfl⟩
    · rw [if_neg h2]
      by_cases h3 : x.f0 = 3
      · rw [if_pos h3, h3]
        exact ⟨_, rfl⟩
      · rw [if_neg h3, show x.f0 = 0 by omega]
        exact ⟨_, rfl⟩
theorem one_parts (x y : S45) (hx : right x = true) (hy : right y = true) (ix : in64 x.f1) (iy : in64 y.f1) (h : x ≠ y) : Parts (oneB x) (oneB y) (less x y) := by
  have kx := right_kind hx
  have ky := right_kind hy
  unfold less
  by_cases hk : x.f0 = y.f0
  · rw [if_pos hk]
    by_cases h1 : x.f0 = 1
    · have g1 : y.f0 = 1 := by omega
      simp [right, h1] at hx
      simp [right, g1] at hy
      have hf2 : x.f2 = y.f2 := toList_eq_iff.1 (by rw [hx, hy])
      have hf1 : x.f1 ≠ y.f1 := fun e => h (s45_ext hk e hf2)
      rw [if_neg hf1]
      have ex : oneB x = [2] ++ X.be 8 ((x.f1 + 9223372036854775808) % 18446744073709551616).toNat := by simp [oneB, h1, X.key9]
      have ey : oneB y = [2] ++ X.be 8 ((y.f1 + 9223372036854775808) % 18446744073709551616).toNat := by simp [oneB, g1, X.key9]
      unfold in64 at ix iy
      have hp := be_parts 8 ((x.f1 + 9223372036854775808) % 18446744073709551616).toNat ((y.f1 + 9223372036854775808) % 18446744073709551616).toNat (by omega) (by omega) (by omega)
      have e : decide (x.f1 < y.f1) = decide (((x.f1 + 9223372036854775808) % 18446744073709551616).toNat < ((y.f1 + 9223372036854775808) % 18446744073709551616).toNat) := by
        rw [Bool.eq_iff_iff]
        simp only [decide_eq_true_eq]
        omega
      rw [ex, ey, e]
      exact hp.pre _
    · by_cases h2 : x.f0 = 2
      · have g2 : y.f0 = 2 := by omega
        simp [right, h2] at hx
        simp [right, g2] at hy
        have hf2 : x.f2 = y.f2 := toList_eq_iff.1 (by rw [hx.1, hy.1])
        have hf1 : x.f1 ≠ y.f1 := fun e => h (s45_ext hk e hf2)
        rw [if_neg hf1]
        refine ⟨[3], x.f1 % 256, y.f1 % 256, [], [], by simp [oneB, h2], by simp [oneB, g2], by omega, ?_⟩
        rw [Bool.eq_iff_iff]
        simp only [decide_eq_true_eq]
        omega
      · by_cases h3 : x.f0 = 3
        · have g3 : y.f0 = 3 := by omega
          simp [right, h3] at hx
          simp [right, g3] at hy
          have hf1 : x.f1 = y.f1 := by rw [hx.1, hy.1]
          rw [if_pos hf1]
          have hne : x.f2.toList ≠ y.f2.toList := fun e => h (s45_ext hk hf1 (toList_eq_iff.1 e))
          have ex : oneB x = [4] ++ (ints x.f2.toList ++ [0]) := by simp [oneB, h3, ints, toList_data, bytesOf]
          have ey : oneB y = [4] ++ (ints y.f2.toList ++ [0]) := by simp [oneB, g3, ints, toList_data, bytesOf]
          have px : plainL (ints x.f2.toList) = true := by have := hx.2.2; simpa [ints, toList_data, bytesOf] using this
          have py : plainL (ints y.f2.toList) = true := by have := hy.2.2; simpa [ints, toList_data, bytesOf] using this
          rw [ex, ey]
          exact (text_parts _ _ hne px py).pre _
        · exfalso
          have h0 : x.f0 = 0 := by omega
          have g0 : y.f0 = 0 := by omega
          simp [right, h0] at hx
          simp [right, g0] at hy
          exact h (s45_ext hk (by rw [hx.1, hy.1]) (toList_eq_iff.1 (by rw [hx.2, hy.2])))
  · rw [if_neg hk]
    obtain ⟨s, hs⟩ := oneB_head x hx
    obtain ⟨t, ht⟩ := oneB_head y hy
    refine ⟨[], x.f0 + 1, y.f0 + 1, s, t, by rw [hs]; rfl, by rw [ht]; rfl, by omega, ?_⟩
    rw [Bool.eq_iff_iff]
    simp only [decide_eq_true_eq]
    omega
theorem bodyB_append : ∀ (a b : List S45), bodyB (a ++ b) = bodyB a ++ bodyB b
  | [], b => rfl
  | x :: a, b => by simp [bodyB, bodyB_append a b]
theorem oneB_isB (x : S45) (hr : right x = true) : isB (oneB x) := by
  unfold oneB
  by_cases h1 : x.f0 = 1
  · rw [if_pos h1]
    intro y hy
    simp only [X.key9, List.mem_cons] at hy
    rcases hy with rfl | hy
    · omega
    · exact be_isB 8 _ y hy
  · rw [if_neg h1]
    by_cases h2 : x.f0 = 2
    · rw [if_pos h2]
      intro y hy
      simp only [List.mem_cons, List.not_mem_nil, or_false] at hy
      rcases hy with rfl | rfl <;> omega
    · rw [if_neg h2]
      by_cases h3 : x.f0 = 3
      · rw [if_pos h3]
        intro y hy
        simp only [List.mem_cons, List.mem_append, List.not_mem_nil, or_false] at hy
        rcases hy with rfl | hy | rfl
        · omega
        · exact B_range _ y hy
        · omega
      · rw [if_neg h3]
        intro y hy
        simp only [List.mem_cons, List.not_mem_nil, or_false] at hy
        omega
theorem bodyB_isB : ∀ {l : List S45}, l.all right = true → isB (bodyB l)
  | [], _ => by intro x hx; simp [bodyB] at hx
  | v :: t, h => by
    rw [List.all_cons, Bool.and_eq_true] at h
    intro x hx
    simp only [bodyB, List.mem_append] at hx
    rcases hx with hx | hx
    · exact oneB_isB v h.1 x hx
    · exact bodyB_isB h.2 x hx
theorem body_split {l : List S45} (hr : l.all right = true) (h : bodyB l ≠ []) : ∃ q c j, bodyB l = q ++ c :: List.replicate j 255 ∧ 0 ≤ c ∧ c < 255 := by
  rcases split_ones (bodyB l) (bodyB_isB hr) with ⟨n, hn⟩ | h2
  · exfalso
    cases l with
    | nil => exact h rfl
    | cons v t =>
      rw [List.all_cons, Bool.and_eq_true] at hr
      have hk := right_kind hr.1
      obtain ⟨s, hs⟩ := oneB_head v hr.1
      simp only [bodyB] at hn
      rw [hs] at hn
      cases n with
      | zero => simp at hn
      | succ n =>
        rw [List.replicate_succ, List.cons_append] at hn
        have := (List.cons.inj hn).1
        omega
  · exact h2
end Go.Proofs.Ytlbjipdkihoojaa.KeysW
