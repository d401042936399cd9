/- Bytes as values: what putting lays is got, and what is got is what putting lays. -/
import Derived.Test.YtlbjipdkihoojaaKeysW
namespace Go.Proofs.Ytlbjipdkihoojaa.KeysW
set_option linter.unusedVariables false
set_option linter.unusedSimpArgs false
open Go Go.RowKit Go.Proofs.Ytlbjipdkihoojaa.Q Go.Proofs.YtlbjipdkihoojaaW.PrintWords Go.Proofs.Ytlbjipdkihoojaa.Aux Go.Proofs.Ytlbjipdkihoojaa.By

/-- are these bytes? -/
def isB (l : List Int) : Prop := ∀ x ∈ l, 0 ≤ x ∧ x ≤ 255
theorem isB_wf {l : List Int} (h : ∀ x ∈ l, (fun n => (Lit.int .u8 n).wf = true) x) : isB l := by
  intro x hx
  have := h x hx
  simp [Lit.wf, IntKind.min, IntKind.max, IntKind.bits, IntKind.signed] at this
  omega
theorem isB_drop {l : List Int} (h : isB l) (n : Nat) : isB (l.drop n) := fun x hx => h x (List.mem_of_mem_drop hx)
theorem isB_take {l : List Int} (h : isB l) (n : Nat) : isB (l.take n) := fun x hx => h x (List.mem_of_mem_take hx)
/-- the number of bytes, the greatest first -/
def val : Nat → List Int → Nat
  | n, [] => n
  | n, c :: t => val (n * 256 + c.toNat) t
theorem val_snoc : ∀ (l : List Int) (n : Nat) (c : Int), val n (l ++ [c]) = val n l * 256 + c.toNat
  | [], n, c => rfl
  | x :: l, n, c => by simp only [List.cons_append, val]; exact val_snoc l _ c
theorem be_val : ∀ (i : Nat) (l : List Int), l.length = i → isB l → X.be i (val 0 l) = l
  | 0, l, h, _ => by
    have : l = [] := List.length_eq_zero_iff.1 h
    subst this
    rfl
  | i + 1, l, h, hb => by
    rcases List.eq_nil_or_concat l with rfl | ⟨t, c, rfl⟩
    · simp at h
    · simp only [List.concat_eq_append] at h hb ⊢
      have hc := hb c (by simp)
      have ht : isB t := fun x hx => hb x (by simp [hx])
      have ih := be_val i t (by simpa using h) ht
      rw [val_snoc, X.be]
      have e1 : (val 0 t * 256 + c.toNat) / 256 = val 0 t := by omega
      have e2 : (((val 0 t * 256 + c.toNat) % 256 : Nat) : Int) = c := by omega
      rw [e1, e2, ih]
theorem be_isB : ∀ (i n : Nat), isB (X.be i n)
  | 0, n => by intro x hx; simp [X.be] at hx
  | i + 1, n => by
    intro x hx
    simp only [X.be, List.mem_append, List.mem_singleton] at hx
    rcases hx with hx | rfl
    · exact be_isB i _ x hx
    · omega
theorem val_be : ∀ (i n : Nat), n < 256 ^ i → val 0 (X.be i n) = n
  | 0, n, h => by
    have : n = 0 := by simpa using h
    subst this
    rfl
  | i + 1, n, h => by
    rw [X.be, val_snoc, val_be i (n / 256) (by rw [Nat.pow_succ] at h; exact Nat.div_lt_of_lt_mul (by rw [Nat.mul_comm]; exact h))]
    omega
theorem val_lt : ∀ (l : List Int) (n i : Nat), isB l → n < 256 ^ i → val n l < 256 ^ (i + l.length)
  | [], n, i, _, h => by simpa [val] using h
  | c :: l, n, i, hb, h => by
    have hc := hb c List.mem_cons_self
    have := val_lt l (n * 256 + c.toNat) (i + 1) (fun x hx => hb x (List.mem_cons_of_mem _ hx)) (by rw [Nat.pow_succ]; omega)
    simp only [val, List.length_cons]
    rw [show i + (l.length + 1) = i + 1 + l.length by omega]
    exact this
theorem or_byte {n : Nat} {c : Int} (hn : n < 72057594037927936) (hc : 0 ≤ c ∧ c ≤ 255) : Go.bits .or .u64 (IntKind.u64.wrap ((n : Int) * 256)) (IntKind.u64.wrap c) = ((n * 256 + c.toNat : Nat) : Int) := by
  rw [wrap_u64 (by omega) (by omega), wrap_u64 (by omega) (by omega)]
  have hj := bits_join_low .u64 64 (by decide) (fun n h0 h1 => by rw [IntKind.wrap_u64]; omega) 8 c ((n : Int) * 256) (by omega) (by omega) (by omega) (by omega) (by omega) (by omega)
  have hcomm : Go.bits .or .u64 ((n : Int) * 256) c = Go.bits .or .u64 c ((n : Int) * 256) := by
    obtain ⟨C, rfl⟩ := Int.eq_ofNat_of_zero_le hc.1
    have e : (n : Int) * 256 = ((n * 256 : Nat) : Int) := by omega
    rw [e, bits_or_u64_nat _ _ (by omega) (by omega), bits_or_u64_nat _ _ (by omega) (by omega), Nat.or_comm]
  rw [hcomm, hj]
  omega
theorem one_l (l : List Int) (hb : isB l) (hl : l.length = 8) : ∀ (m i n : Nat), i + m = 8 → n < 256 ^ i → Ev (fun k => keys_one.l0 k n l 8 i) (1, wrap64 (IntKind.u64.wrap ((val n (l.drop i) : Int) - 9223372036854775808)), (⟨#[]⟩ : ByteArray), 9, 0)
  | m, i, n, hi, hn => by
    refine Ev.step (fun k => keys_one.l0.eq_2 ..) ?_
    cases m with
    | zero =>
      refine ev_neg (by omega) ?_
      rw [List.drop_eq_nil_of_le (by omega)]
      exact Ev.now _
    | succ m =>
      have hlt : i < l.length := by omega
      have hp : (256 : Nat) ^ i ≤ 256 ^ 7 := Nat.pow_le_pow_right (by omega) (by omega)
      have hc := hb l[i] (List.getElem_mem hlt)
      have e1 : rd l (i : Int) = l[i] := by simp [rd, List.getD_eq_getElem?_getD, hlt]
      have e2 : wrap64 ((i : Int) + 1) = ((i + 1 : Nat) : Int) := by rw [wrap_in (by omega) (by omega)]; omega
      rw [e1, e2, List.drop_eq_getElem_cons hlt, or_byte (by omega) hc]
      refine ev_pos (by omega) ?_
      refine ev_pos (by omega) ?_
      refine ev_pos (by omega) ?_
      exact one_l l hb hl m (i + 1) _ (by omega) (by rw [Nat.pow_succ]; omega)
def at9 (n : Nat) : Int := wrap64 (IntKind.u64.wrap ((n : Int) - 9223372036854775808))
theorem at9_in (n : Nat) : in64 (at9 n) := by
  unfold at9 in64 wrap64
  omega
theorem at9_key {n : Nat} (h : n < 18446744073709551616) : ((at9 n + 9223372036854775808) % 18446744073709551616).toNat = n := by
  unfold at9 wrap64
  rw [IntKind.wrap_u64]
  omega
theorem key_at9 {a : Int} (h : in64 a) : at9 ((a + 9223372036854775808) % 18446744073709551616).toNat = a := by
  unfold at9 wrap64
  unfold in64 at h
  rw [IntKind.wrap_u64]
  omega
theorem plainL_append : ∀ (a b : List Int), plainL (a ++ b) = (plainL a && plainL b)
  | [], b => by simp [plainL]
  | c :: a, b => by simp [plainL, plainL_append a b, Bool.and_assoc]
/-- what a word is, if there is one -/
theorem word_any (b : List Int) (hb : isB b) (hl : b.length ≤ 100000) : ∀ (m i : Nat), i + m = b.length → i ≤ 32 → plainL (b.take i) = true → ∃ r : ByteArray × Int × Int, Ev (fun k => keys_word.l0 k b b b.length i) r ∧ (r.2.2 = 0 → ∃ s rest, b = s ++ 0 :: rest ∧ plainL s = true ∧ s.length ≤ 32 ∧ r.1 = strOfNums s ∧ r.2.1 = s.length + 1)
  | m, i, hi, hs, hp => by
    cases m with
    | zero =>
      refine ⟨((⟨#[]⟩ : ByteArray), 0, 13), ?_, fun h => absurd h (by decide)⟩
      refine Ev.step (fun k => keys_word.l0.eq_2 ..) ?_
      exact ev_neg (by omega) (Ev.now _)
    | succ m =>
      have hlt : i < b.length := by omega
      have hc := hb b[i] (List.getElem_mem hlt)
      have e1 : rd b (i : Int) = b[i] := by simp [rd, List.getD_eq_getElem?_getD, hlt]
      have e2 : wrap64 ((i : Int) + 1) = ((i + 1 : Nat) : Int) := by rw [wrap_in (by omega) (by omega)]; omega
      have hd := List.drop_eq_getElem_cons hlt
      by_cases h0 : b[i] = 0
      · refine ⟨(strOfNums (b.take i), ((i + 1 : Nat) : Int), 0), ?_, fun _ => ⟨b.take i, b.drop (i + 1), ?_, hp, ?_, rfl, ?_⟩⟩
        · refine Ev.step (fun k => keys_word.l0.eq_2 ..) ?_
          rw [e1, e2]
          refine ev_pos (by omega) ?_
          refine ev_pos (by omega) ?_
          refine ev_pos (by omega) ?_
          refine ev_pos h0 ?_
          refine ev_pos (by omega) ?_
          exact Ev.now _
        · rw [h0] at hd
          rw [← hd, List.take_append_drop]
        · rw [List.length_take]; omega
        · show ((i + 1 : Nat) : Int) = _
          rw [List.length_take]
          omega
      · have hj : ∀ (x : Bool) (r : ByteArray × Int × Int), Ev (fun k => keys_word.j1 k b i b b.length i x) r → (x = (decide (b[i] < 32) || decide (b[i] > 126))) → Ev (fun k => keys_word.l0 k b b b.length i) r := by
          intro x r hr hx
          refine Ev.step (fun k => keys_word.l0.eq_2 ..) ?_
          rw [e1]
          refine ev_pos (by omega) ?_
          refine ev_pos (by omega) ?_
          refine ev_pos (by omega) ?_
          refine ev_neg h0 ?_
          by_cases h1 : b[i] < 32
          · refine ev_pos h1 ?_
            have : x = true := by simp [hx, h1]
            rw [this] at hr
            exact hr
          · refine ev_neg h1 ?_
            have : x = decide (b[i] > 126) := by simp [hx, h1]
            rw [this] at hr
            exact hr
        by_cases hx : (decide (b[i] < 32) || decide (b[i] > 126)) = true
        · refine ⟨((⟨#[]⟩ : ByteArray), 0, 12), ?_, fun h => absurd h (by decide)⟩
          refine hj true _ ?_ hx.symm
          refine Ev.step (fun k => keys_word.j1.eq_2 ..) ?_
          exact ev_pos rfl (Ev.now _)
        · have hx' : (decide (b[i] < 32) || decide (b[i] > 126)) = false := by simpa using hx
          by_cases h32 : i = 32
          · refine ⟨((⟨#[]⟩ : ByteArray), 0, 3), ?_, fun h => absurd h (by decide)⟩
            refine hj false _ ?_ hx'.symm
            refine Ev.step (fun k => keys_word.j1.eq_2 ..) ?_
            refine ev_neg (by decide) ?_
            exact ev_pos (by omega) (Ev.now _)
          · have hp2 : plainL (b.take (i + 1)) = true := by
              rw [List.take_succ_eq_append_getElem hlt, plainL_append, hp]
              simp only [Bool.or_eq_false_iff, decide_eq_false_iff_not] at hx'
              simp [plainL]
              omega
            obtain ⟨r, h1, h2⟩ := word_any b hb hl m (i + 1) (by omega) (by omega) hp2
            refine ⟨r, ?_, h2⟩
            refine hj false _ ?_ hx'.symm
            refine Ev.step (fun k => keys_word.j1.eq_2 ..) ?_
            refine ev_neg (by decide) ?_
            refine ev_neg (by omega) ?_
            rw [e2]
            exact h1
theorem plainL_at : ∀ {s : List Int} (h : plainL s = true) (i : Nat) (hi : i < s.length), 32 ≤ s[i] ∧ s[i] ≤ 126
  | c :: t, h, 0, hi => by
    simp [plainL] at h
    exact ⟨h.1, h.2.1⟩
  | c :: t, h, i + 1, hi => by
    simp [plainL] at h
    simp only [List.getElem_cons_succ]
    exact plainL_at h.2.2 i (by simpa using hi)
theorem word_put (s rest : List Int) (hp : plainL s = true) (hs : s.length ≤ 32) (hl : rest.length ≤ 100000) : ∀ (m i : Nat), i + m = s.length → Ev (fun k => keys_word.l0 k (s ++ 0 :: rest) (s ++ 0 :: rest) (s ++ 0 :: rest).length i) (strOfNums s, (s.length : Int) + 1, 0)
  | m, i, hi => by
    have hlen : (s ++ 0 :: rest).length = s.length + 1 + rest.length := by simp; omega
    refine Ev.step (fun k => keys_word.l0.eq_2 ..) ?_
    cases m with
    | zero =>
      have hi' : i = s.length := by omega
      subst hi'
      have e1 : rd (s ++ 0 :: rest) (s.length : Int) = 0 := rd_mid s 0 rest
      have e2 : wrap64 ((s.length : Int) + 1) = (s.length : Int) + 1 := wrap_in (by omega) (by omega)
      rw [e1, e2]
      refine ev_pos (by omega) ?_
      refine ev_pos (by omega) ?_
      refine ev_pos (by omega) ?_
      refine ev_pos rfl ?_
      refine ev_pos (by omega) ?_
      rw [Int.toNat_natCast, List.take_left]
      exact Ev.now _
    | succ m =>
      have hlt : i < s.length := by omega
      have hc := plainL_at hp i hlt
      have e1 : rd (s ++ 0 :: rest) (i : Int) = s[i] := by
        simp [rd, List.getD_eq_getElem?_getD, List.getElem?_append_left hlt, hlt]
      have e2 : wrap64 ((i : Int) + 1) = ((i + 1 : Nat) : Int) := by rw [wrap_in (by omega) (by omega)]; omega
      rw [e1]
      refine ev_pos (by omega) ?_
      refine ev_pos (by omega) ?_
      refine ev_pos (by omega) ?_
      refine ev_neg (by omega) ?_
      refine ev_neg (by omega) ?_
      rw [show decide (s[i] > 126) = false by simp; omega]
      refine Ev.step (fun k => keys_word.j1.eq_2 ..) ?_
      refine ev_neg (by decide) ?_
      refine ev_neg (by omega) ?_
      rw [e2]
      exact word_put s rest hp hs hl m (i + 1) (by omega)
theorem rd_0 (c : Int) (t : List Int) : rd (c :: t) 0 = c := rfl
theorem rd_1 (c d : Int) (t : List Int) : rd (c :: d :: t) 1 = d := rfl
theorem nil_list : (⟨#[]⟩ : ByteArray).toList = ([] : List UInt8) := (toList_nil_iff _).2 rfl
theorem plainL_isB {s : List Int} (h : plainL s = true) : isB s := by
  intro x hx
  obtain ⟨i, hi, rfl⟩ := List.mem_iff_getElem.1 hx
  have := plainL_at h i hi
  omega
/-- a value's bytes are it -/
theorem one_put (v : S45) (hr : right v = true) (hi : in64 v.f1) (rest : List Int) (hl : rest.length ≤ 100000) : Ev (fun k => keys_one.f k (oneB v ++ rest)) (v.f0, v.f1, v.f2, ((oneB v).length : Int), 0) := by
  have hk := right_kind hr
  unfold keys_one.f
  by_cases h1 : v.f0 = 1
  · have e : oneB v = X.key9 v.f1 := by simp [oneB, h1]
    have hbl := X.be_len 8 ((v.f1 + 9223372036854775808) % 18446744073709551616).toNat
    have hbb := be_isB 8 ((v.f1 + 9223372036854775808) % 18446744073709551616).toNat
    have hv := val_be 8 ((v.f1 + 9223372036854775808) % 18446744073709551616).toNat (by omega)
    have hk9 := key_at9 hi
    rw [e, X.key9_len, X.key9]
    obtain ⟨q, hq⟩ : ∃ q, X.be 8 ((v.f1 + 9223372036854775808) % 18446744073709551616).toNat = q := ⟨_, rfl⟩
    rw [hq] at hbl hbb hv ⊢
    have hlen : (2 :: q ++ rest).length = 9 + rest.length := by simp [hbl]; omega
    have e2 : ((2 :: q ++ rest).take 9).drop 1 = q := by
      simp [List.take_append, hbl]
    rw [e2, hlen, hbl]
    have e0 : rd (2 :: q ++ rest) 0 = 2 := rfl
    rw [e0]
    refine ev_pos (by omega) ?_
    refine ev_neg (by omega) ?_
    refine ev_pos rfl ?_
    refine ev_neg (by omega) ?_
    refine ev_pos (by omega) ?_
    refine ev_pos (by omega) ?_
    refine ev_to (one_l q hbb hbl 8 0 0 (by omega) (by omega)) ?_
    rw [List.drop_zero, hv]
    have e9 : wrap64 (IntKind.u64.wrap (((((v.f1 + 9223372036854775808) % 18446744073709551616).toNat : Nat) : Int) - 9223372036854775808)) = v.f1 := hk9
    rw [e9, h1]
    have : v.f2 = (⟨#[]⟩ : ByteArray) := by
      simp [right, h1] at hr
      exact toList_eq_iff.1 (by rw [hr, nil_list])
    rw [this]
    rfl
  · by_cases h2 : v.f0 = 2
    · have e : oneB v = [3, v.f1 % 256] := by simp [oneB, h2]
      simp [right, h2] at hr
      have hf2 : v.f2 = (⟨#[]⟩ : ByteArray) := toList_eq_iff.1 (by rw [hr.1, nil_list])
      have hm : v.f1 % 256 = v.f1 := by omega
      have hw : wrap64 v.f1 = v.f1 := wrap_in (by omega) (by omega)
      rw [e, hm]
      have hlen : ([3, v.f1] ++ rest).length = 2 + rest.length := by simp; omega
      have e0 : rd ([3, v.f1] ++ rest) 0 = 3 := rfl
      have e1 : rd ([3, v.f1] ++ rest) 1 = v.f1 := rfl
      rw [hlen, e0, e1, hw]
      refine ev_pos (by omega) ?_
      refine ev_neg (by omega) ?_
      refine ev_neg (by omega) ?_
      refine ev_pos rfl ?_
      refine ev_neg (by omega) ?_
      refine ev_pos (by omega) ?_
      refine ev_neg (by omega) ?_
      refine ev_to (Ev.now _) ?_
      rw [h2, hf2]
      rfl
    · by_cases h3 : v.f0 = 3
      · have e : oneB v = 4 :: (B v.f2 ++ [0]) := by simp [oneB, h3]
        have hs := right_size hr h3
        have hb := B_size v.f2
        simp [right, h3] at hr
        have e' : 4 :: (B v.f2 ++ [0]) ++ rest = 4 :: (B v.f2 ++ 0 :: rest) := by simp
        have hlen : (4 :: (B v.f2 ++ 0 :: rest)).length = v.f2.size + 2 + rest.length := by simp [hb]; omega
        have hol : ((4 : Int) :: (B v.f2 ++ [0])).length = v.f2.size + 2 := by simp [hb]
        have hw := word_put (B v.f2) rest hr.2.2 (by omega) hl (B v.f2).length 0 (by omega)
        rw [strOfNums_B] at hw
        have hwf : Ev (fun k => keys_word.f k (B v.f2 ++ 0 :: rest)) (v.f2, ((B v.f2).length : Int) + 1, 0) := hw
        rw [e, e', hol, hlen]
        have e0 : rd (4 :: (B v.f2 ++ 0 :: rest)) 0 = 4 := rfl
        rw [e0]
        refine ev_pos (by omega) ?_
        refine ev_neg (by omega) ?_
        refine ev_neg (by omega) ?_
        refine ev_neg (by omega) ?_
        refine ev_pos rfl ?_
        refine ev_pos (by omega) ?_
        rw [show (4 :: (B v.f2 ++ 0 :: rest)).drop 1 = B v.f2 ++ 0 :: rest from rfl]
        refine Ev.bind hwf ?_
        refine ev_to (Ev.now _) ?_
        have ew : wrap64 (((B v.f2).length : Int) + 1 + 1) = ((v.f2.size + 2 : Nat) : Int) := by rw [wrap_in (by omega) (by omega)]; omega
        simp only [ew]
        rw [h3, hr.1]
      · have h0 : v.f0 = 0 := by omega
        have e : oneB v = [1] := by simp [oneB, h0]
        simp [right, h0] at hr
        have hf2 : v.f2 = (⟨#[]⟩ : ByteArray) := toList_eq_iff.1 (by rw [hr.2, nil_list])
        rw [e]
        have hlen : ([1] ++ rest).length = 1 + rest.length := by simp; omega
        have e0 : rd ([1] ++ rest) 0 = 1 := rfl
        rw [hlen, e0]
        refine ev_pos (by omega) ?_
        refine ev_pos rfl ?_
        refine ev_to (Ev.now _) ?_
        rw [h0, hr.1, hf2]
        rfl
def Fits (b : List Int) (r : Int × Int × ByteArray × Int × Int) : Prop := r.2.2.2.2 = 0 → ∃ (v : S45) (rest : List Int), v.f0 = r.1 ∧ v.f1 = r.2.1 ∧ v.f2 = r.2.2.1 ∧ right v = true ∧ b = oneB v ++ rest ∧ r.2.2.2.1 = ((oneB v).length : Int)
theorem fits_err (b : List Int) (r : Int × Int × ByteArray × Int × Int) (h : ¬ r.2.2.2.2 = 0) : Fits b r := fun h0 => absurd h0 h
/-- what is told to be a value is one, and the bytes are its -/
theorem one_any (b : List Int) (hb : isB b) (hl : b.length ≤ 100000) (h : 0 < b.length) : ∃ r, Ev (fun k => keys_one.f k b) r ∧ Fits b r := by
  unfold keys_one.f
  obtain ⟨c, t, rfl⟩ : ∃ c t, b = c :: t := by
    cases b with
    | nil => simp at h
    | cons c t => exact ⟨c, t, rfl⟩
  simp only [rd_0]
  simp only [List.length_cons] at hl
  by_cases h1 : c = 1
  · subst h1
    refine ⟨(0, 0, (⟨#[]⟩ : ByteArray), 1, 0), ev_pos (by simp <;> omega) (ev_pos rfl (Ev.now _)), fun _ => ⟨⟨0, 0, (⟨#[]⟩ : ByteArray)⟩, t, rfl, rfl, rfl, ?_, ?_, ?_⟩⟩
    · simp [right, nil_list]
    · simp [oneB]
    · simp [oneB]
  · by_cases h2 : c = 2
    · subst h2
      by_cases h9 : t.length < 8
      · refine ⟨(0, 0, (⟨#[]⟩ : ByteArray), 0, 13), ?_, fits_err _ _ (by decide)⟩
        refine ev_pos (by simp <;> omega) ?_
        refine ev_neg (by omega) ?_
        refine ev_pos rfl ?_
        exact ev_pos (by simp <;> omega) (Ev.now _)
      · have et : ((2 :: t).take 9).drop 1 = t.take 8 := by simp
        have hl8 : (t.take 8).length = 8 := by rw [List.length_take]; omega
        have hb8 : isB (t.take 8) := isB_take (fun x hx => hb x (List.mem_cons_of_mem _ hx)) 8
        have hv := val_lt (t.take 8) 0 0 hb8 (by omega)
        rw [hl8] at hv
        have hbe := be_val 8 (t.take 8) hl8 hb8
        have hat := at9_key (n := val 0 (t.take 8)) (by simpa using hv)
        refine ⟨(1, at9 (val 0 (t.take 8)), (⟨#[]⟩ : ByteArray), 9, 0), ?_, fun _ => ⟨⟨1, at9 (val 0 (t.take 8)), (⟨#[]⟩ : ByteArray)⟩, t.drop 8, rfl, rfl, rfl, ?_, ?_, ?_⟩⟩
        · refine ev_pos (by simp <;> omega) ?_
          refine ev_neg (by omega) ?_
          refine ev_pos rfl ?_
          refine ev_neg (by simp <;> omega) ?_
          refine ev_pos (by omega) ?_
          refine ev_pos (by simp <;> omega) ?_
          rw [et, hl8]
          have := one_l (t.take 8) hb8 hl8 8 0 0 (by omega) (by omega)
          exact this
        · simp [right, nil_list]
        · simp only [oneB, if_true, X.key9]
          rw [hat, hbe, List.cons_append, List.take_append_drop]
        · simp [oneB, X.key9_len]
    · by_cases h3 : c = 3
      · subst h3
        cases t with
        | nil =>
          refine ⟨(0, 0, (⟨#[]⟩ : ByteArray), 0, 13), ?_, fits_err _ _ (by decide)⟩
          refine ev_pos (by simp) ?_
          refine ev_neg (by omega) ?_
          refine ev_neg (by omega) ?_
          refine ev_pos rfl ?_
          exact ev_pos (by simp) (Ev.now _)
        | cons d t =>
          have hd := hb d (by simp)
          simp only [rd_1]
          by_cases hd1 : d > 1
          · refine ⟨(0, 0, (⟨#[]⟩ : ByteArray), 0, 12), ?_, fits_err _ _ (by decide)⟩
            refine ev_pos (by simp <;> omega) ?_
            refine ev_neg (by omega) ?_
            refine ev_neg (by omega) ?_
            refine ev_pos trivial ?_
            refine ev_neg (by simp <;> omega) ?_
            refine ev_pos (by simp <;> omega) ?_
            exact ev_pos hd1 (Ev.now _)
          · have hw : wrap64 d = d := wrap_in (by omega) (by omega)
            refine ⟨(2, d, (⟨#[]⟩ : ByteArray), 2, 0), ?_, fun _ => ⟨⟨2, d, (⟨#[]⟩ : ByteArray)⟩, t, rfl, rfl, rfl, ?_, ?_, ?_⟩⟩
            · rw [hw]
              refine ev_pos (by simp <;> omega) ?_
              refine ev_neg (by omega) ?_
              refine ev_neg (by omega) ?_
              refine ev_pos trivial ?_
              refine ev_neg (by simp <;> omega) ?_
              refine ev_pos (by simp <;> omega) ?_
              exact ev_neg hd1 (Ev.now _)
            · simp [right, nil_list]
              omega
            · simp [oneB]
              omega
            · simp [oneB]
      · by_cases h4 : c = 4
        · subst h4
          have hbt : isB t := fun x hx => hb x (List.mem_cons_of_mem _ hx)
          obtain ⟨r, hr1, hr2⟩ := word_any t hbt (by omega) t.length 0 (by omega) (by omega) rfl
          have hrf : Ev (fun k => keys_word.f k t) r := hr1
          refine ⟨(3, 0, r.1, wrap64 (r.2.1 + 1), r.2.2), ?_, ?_⟩
          · refine ev_pos (by simp <;> omega) ?_
            refine ev_neg (by omega) ?_
            refine ev_neg (by omega) ?_
            refine ev_neg (by omega) ?_
            refine ev_pos rfl ?_
            refine ev_pos (by simp <;> omega) ?_
            rw [show (4 :: t).drop 1 = t from rfl]
            exact Ev.bind hrf (Ev.now _)
          · intro h0
            obtain ⟨s, rest, e1, e2, e3, e4, e5⟩ := hr2 h0
            have hB := B_ofNums (plainL_isB e2)
            have hsz := B_size (strOfNums s)
            rw [hB] at hsz
            refine ⟨⟨3, 0, strOfNums s⟩, rest, rfl, rfl, e4.symm, ?_, ?_, ?_⟩
            · simp only [right, hB, e2, ← hsz]
              simp [e3]
            · simp [oneB, hB, e1]
            · simp only [e5]
              rw [wrap_in (by omega) (by omega)]
              simp [oneB, hB]
        · refine ⟨(0, 0, (⟨#[]⟩ : ByteArray), 0, 12), ?_, fits_err _ _ (by decide)⟩
          refine ev_pos (by simp <;> omega) ?_
          refine ev_neg h1 ?_
          refine ev_neg h2 ?_
          refine ev_neg h3 ?_
          exact ev_neg h4 (Ev.now _)
theorem oneB_pos (v : S45) : 0 < (oneB v).length := by
  unfold oneB
  split
  · rw [X.key9_len]; omega
  · split
    · simp
    · split
      · simp
      · simp
theorem eta (v : S45) : (⟨v.f0, v.f1, v.f2⟩ : S45) = v := by cases v; rfl
theorem get_put : ∀ (l acc : List S45), acc.length + l.length ≤ 6 → l.all right = true → (∀ v ∈ l, in64 v.f1) → Ev (fun k => keys_Get.l0 k (bodyB l) acc 0) (acc ++ l, 0)
  | [], acc, hl, hr, hi => by
    refine Ev.step (fun k => keys_Get.l0.eq_2 ..) ?_
    refine ev_neg (by simp [bodyB]) ?_
    refine ev_pos rfl ?_
    refine ev_to (Ev.now _) ?_
    simp
  | v :: l, acc, hl, hr, hi => by
    rw [List.all_cons, Bool.and_eq_true] at hr
    simp only [List.length_cons] at hl
    have hbl := bodyB_len hr.2
    have hp := oneB_pos v
    have h40 := oneB_len hr.1
    have hlen : (bodyB (v :: l)).length = (oneB v).length + (bodyB l).length := by simp [bodyB]
    refine Ev.step (fun k => keys_Get.l0.eq_2 ..) ?_
    refine ev_pos (by omega) ?_
    refine ev_neg (by omega) ?_
    have h1 := one_put v hr.1 (hi v List.mem_cons_self) (bodyB l) (by omega)
    refine Ev.bind h1 ?_
    refine ev_pos rfl ?_
    refine ev_pos (by omega) ?_
    refine ev_pos (Int.natCast_nonneg _) ?_
    refine ev_pos (by simp only; omega) ?_
    simp only [Int.toNat_natCast, eta]
    rw [show (bodyB (v :: l)).drop (oneB v).length = bodyB l by simp [bodyB]]
    refine ev_to (get_put l (acc ++ [v]) (by simp <;> omega) hr.2 (fun x hx => hi x (List.mem_cons_of_mem _ hx))) ?_
    simp
theorem get_any : ∀ (m : Nat) (b : List Int) (acc : List S45), b.length ≤ m → b.length ≤ 100000 → isB b → acc.length ≤ 6 → ∃ r : List S45 × Int, Ev (fun k => keys_Get.l0 k b acc 0) r ∧ (r.2 = 0 → ∃ l, r.1 = acc ++ l ∧ l.all right = true ∧ b = bodyB l ∧ r.1.length ≤ 6) ∧ (¬ r.2 = 0 → r.1 = [])
  | m, b, acc, hm, hb, hB, ha => by
    by_cases h0 : b.length = 0
    · refine ⟨(acc, 0), ?_, fun _ => ⟨[], by simp, rfl, ?_, ha⟩, fun h => absurd rfl h⟩
      · refine Ev.step (fun k => keys_Get.l0.eq_2 ..) ?_
        refine ev_neg (by omega) ?_
        exact ev_pos rfl (Ev.now _)
      · exact List.length_eq_zero_iff.1 h0
    · by_cases h6 : acc.length = 6
      · refine ⟨([], 3), ?_, fun h => absurd h (by decide), fun _ => rfl⟩
        refine Ev.step (fun k => keys_Get.l0.eq_2 ..) ?_
        refine ev_pos (by omega) ?_
        refine ev_pos (by omega) ?_
        exact ev_neg (by decide) (Ev.now _)
      · obtain ⟨r, h1, h2⟩ := one_any b hB hb (by omega)
        by_cases he : r.2.2.2.2 = 0
        · obtain ⟨v, rest, e0, e1, e2, hr, hb2, hn⟩ := h2 he
          have hp := oneB_pos v
          have hlen : b.length = (oneB v).length + rest.length := by rw [hb2]; simp
          cases m with
          | zero => omega
          | succ m =>
            have hBr : isB rest := fun x hx => hB x (by rw [hb2]; simp [hx])
            obtain ⟨r', h3, h4, h5⟩ := get_any m rest (acc ++ [v]) (by omega) (by omega) hBr (by simp <;> omega)
            refine ⟨r', ?_, ?_, h5⟩
            · refine Ev.step (fun k => keys_Get.l0.eq_2 ..) ?_
              refine ev_pos (by omega) ?_
              refine ev_neg (by omega) ?_
              refine Ev.bind h1 ?_
              refine ev_pos he ?_
              refine ev_pos (by omega) ?_
              refine ev_pos (by rw [hn]; omega) ?_
              refine ev_pos (by rw [hn]; omega) ?_
              rw [hn, Int.toNat_natCast, ← e0, ← e1, ← e2, eta]
              rw [show b.drop (oneB v).length = rest by rw [hb2]; simp]
              exact h3
            · intro h
              obtain ⟨l, g1, g2, g3, g4⟩ := h4 h
              refine ⟨v :: l, by rw [g1]; simp, by simp [hr, g2], by rw [hb2, g3]; rfl, g4⟩
        · refine ⟨([], r.2.2.2.2), ?_, fun h => absurd h he, fun _ => rfl⟩
          refine Ev.step (fun k => keys_Get.l0.eq_2 ..) ?_
          refine ev_pos (by omega) ?_
          refine ev_neg (by omega) ?_
          refine Ev.bind h1 ?_
          exact ev_neg he (Ev.now _)
theorem put_ok {l : List S45} (h : (put l).2 = 0) : l.length ≤ 6 ∧ l.all right = true ∧ put l = (bodyB l, 0) := by
  unfold put at h ⊢
  by_cases h1 : l.length > 6
  · rw [if_pos h1] at h
    exact absurd h (by decide)
  · rw [if_neg h1] at h ⊢
    by_cases h2 : l.all right = true
    · rw [if_pos h2]
      exact ⟨by omega, h2, rfl⟩
    · rw [if_neg h2] at h
      exact absurd h (by decide)
theorem works_f : Ev (fun k => registrarlaw04_works.f k) true := by
  unfold registrarlaw04_works.f
  have e : put [(⟨1, 0, (⟨#[]⟩ : ByteArray)⟩ : S45)] = (X.key9 0, 0) := by
    have hr : right (⟨1, 0, (⟨#[]⟩ : ByteArray)⟩ : S45) = true := by simp [right, nil_list]
    simp [put, hr, bodyB, oneB]
  have h1 := put_f [(⟨1, 0, (⟨#[]⟩ : ByteArray)⟩ : S45)] (by simp)
  rw [e] at h1
  refine Ev.bind h1 ?_
  have h2 := get_put [(⟨1, 0, (⟨#[]⟩ : ByteArray)⟩ : S45)] [] (by simp) (by simp [right, nil_list]) (by
    intro v hv
    simp only [List.mem_cons, List.not_mem_nil, or_false] at hv
    rw [hv]
    exact ⟨by decide, by decide⟩)
  have e2 : bodyB [(⟨1, 0, (⟨#[]⟩ : ByteArray)⟩ : S45)] = X.key9 0 := by simp [bodyB, oneB]
  rw [e2] at h2
  have h3 : Ev (fun k => keys_Get.f k (X.key9 0)) ([(⟨1, 0, (⟨#[]⟩ : ByteArray)⟩ : S45)], 0) := h2
  refine Ev.bind h3 ?_
  refine ev_pos rfl ?_
  refine ev_pos rfl ?_
  have h9 : X.key9 0 = [2, 128, 0, 0, 0, 0, 0, 0, 0] := by decide
  simp only [h9]
  refine ev_pos rfl ?_
  refine ev_pos (by decide) ?_
  refine ev_pos rfl ?_
  refine ev_pos (by decide) ?_
  refine ev_pos rfl ?_
  refine ev_pos rfl ?_
  refine ev_pos (by decide) ?_
  refine ev_to (Ev.now _) ?_
  simp [rd_T45, nil_list]
end Go.Proofs.Ytlbjipdkihoojaa.KeysW
