/- Bytes as a row, in plain words: what putting lays is got, and what is got is what putting lays; what is cut ends too early. -/
import Derived.Test.YtlbjipdkihoojaaRowsV
import Derived.Laws.BitsLemmas
namespace Go.Proofs.Ytlbjipdkihoojaa.RowsW
set_option linter.unusedVariables false
set_option linter.unusedSimpArgs false
open Go Go.RowKit Go.Proofs.Ytlbjipdkihoojaa.Q Go.Proofs.YtlbjipdkihoojaaW.PrintWords Go.Proofs.Ytlbjipdkihoojaa.Aux Go.Proofs.Ytlbjipdkihoojaa.By

def isB (l : List Int) : Prop := ∀ x ∈ l, 0 ≤ x ∧ x ≤ 255
theorem isB_wf {l : List Int} (h : ∀ x ∈ l, (fun n => (Lit.int .u8 n).wf = true) x) : isB l := by
  intro x hx
  have := h x hx
  simp [Lit.wf, IntKind.min, IntKind.max, IntKind.bits, IntKind.signed] at this
  omega
theorem isB_tail {c : Int} {l : List Int} (h : isB (c :: l)) : isB l := fun x hx => h x (List.mem_cons_of_mem _ hx)
theorem isB_right {a l : List Int} (h : isB (a ++ l)) : isB l := fun x hx => h x (List.mem_append_right _ hx)
theorem isB_left {a l : List Int} (h : isB (a ++ l)) : isB a := fun x hx => h x (List.mem_append_left _ hx)
theorem take1_err (b : List Int) {e : Int} (h : ¬ e = 0) : rows_place_take1.f b e = some (0, b, e) := by
  simp [rows_place_take1.f, rows_place_take.g, h]
theorem take1_nil : rows_place_take1.f [] 0 = some (0, [], 13) := by
  simp [rows_place_take1.f, rows_place_take.g]
theorem take1_cons (c : Int) (t : List Int) : rows_place_take1.f (c :: t) 0 = some (c, t, 0) := by
  simp [rows_place_take1.f, rows_place_take.g]
theorem fail_ok (b : List Int) (e : Int) : rows_place_fail.f b 0 e = some (b, e) := by simp [rows_place_fail.f]
theorem fail_err (b : List Int) {e : Int} (h : ¬ e = 0) (x : Int) : rows_place_fail.f b e x = some (b, e) := by simp [rows_place_fail.f, h]
theorem and127 {c : Int} (h0 : 0 ≤ c) (h1 : c ≤ 255) : Go.bits .and .u8 c 127 = c % 128 := bits_mask .u8 8 (by decide) wraps_u8 7 (by decide) c h0 (by omega)
theorem pow7 {k : Nat} (hk : k ≤ 9) : (2 : Nat) ^ (7 * k) * 2 ^ (63 - 7 * k) = 9223372036854775808 := by
  rw [← Nat.pow_add, show 7 * k + (63 - 7 * k) = 63 by omega]
/-- the number with seven more bits -/
def more (n : Int) (c : Int) (k : Int) : Int := Go.bits .or .u64 n (shl .u64 (IntKind.u64.wrap (Go.bits .and .u8 c 127)) (IntKind.u64.wrap (wrap64 (7 * k))))
theorem more_eq {n k : Nat} {c : Int} (hc : 0 ≤ c ∧ c ≤ 255) (hk : k ≤ 9) (hn : n < 2 ^ (7 * k)) (h9 : k = 9 → c ≤ 1) : more (n : Int) c (k : Int) = ((n + (c % 128).toNat * 2 ^ (7 * k) : Nat) : Int) := by
  unfold more
  have hw : IntKind.u64.wrap (wrap64 (7 * (k : Int))) = ((7 * k : Nat) : Int) := by
    rw [wrap_in (by omega) (by omega), wrap_u64 (by omega) (by omega)]
    omega
  rw [and127 hc.1 hc.2, wrap_u64 (x := c % 128) (by omega) (by omega), hw]
  unfold shl
  have hm : min (((7 * k : Nat) : Int)).toNat IntKind.u64.bits = 7 * k := by
    have : IntKind.u64.bits = 64 := by decide
    rw [this]
    omega
  rw [hm]
  have hp := pow7 hk
  obtain ⟨d, hd⟩ := Int.eq_ofNat_of_zero_le (show 0 ≤ c % 128 by omega)
  have hd2 : d < 128 := by omega
  have hd9 : k = 9 → d ≤ 1 := fun h => by have := h9 h; omega
  rw [hd]
  have hlt : d * 2 ^ (7 * k) < 18446744073709551616 := by
    by_cases hk9 : k = 9
    · have := hd9 hk9
      subst hk9
      have h63 : (2 : Nat) ^ (7 * 9) = 9223372036854775808 := by decide
      rw [h63]
      omega
    · have h1 : (2 : Nat) ^ (7 * k) ≤ 2 ^ 56 := Nat.pow_le_pow_right (by omega) (by omega)
      have h2 : d * 2 ^ (7 * k) ≤ 127 * 2 ^ 56 := Nat.mul_le_mul (by omega) h1
      omega
  have e5 : (d : Int) * 2 ^ (7 * k) = ((d * 2 ^ (7 * k) : Nat) : Int) := by simp
  rw [e5, wrap_u64 (by omega) (by omega)]
  have h63 : (2 : Nat) ^ (7 * k) ≤ 2 ^ 63 := Nat.pow_le_pow_right (by omega) (by omega)
  have hcast : ((2 : Int) ^ (7 * k)) = ((2 ^ (7 * k) : Nat) : Int) := by simp
  have hj := bits_join_low .u64 64 (by decide) (fun n h0 h1 => by rw [IntKind.wrap_u64]; omega) (7 * k) (n : Int) ((d * 2 ^ (7 * k) : Nat) : Int) (by omega) (by rw [hcast]; omega) (by omega) (by omega) (by
    rw [hcast]
    have h6 : d * 2 ^ (7 * k) % 2 ^ (7 * k) = 0 := Nat.mul_mod_left ..
    omega) (by omega)
  rw [hj]
  simp
/-- is this byte wrong here? -/
def bad (k c : Int) : Bool := (decide (k = 9) && decide (c > 1)) || (decide (k > 0) && decide (c = 0))
theorem small_step (n k : Int) (b b' : List Int) (e e' c : Int) (r : Int × List Int × Int) (hk : k < 10) (ht : rows_place_take1.f b e = some (c, b', e')) (x : Bool) (hx : x = ((decide (k = 9) && decide (c > 1)) || (decide (k > 0) && (decide (c = 0) && decide (e' = 0)))))
    (h : Ev (fun q => rows_reader_small.j1 q n k c k x b' e') r) : Ev (fun q => rows_reader_small.l0 q n k b e) r := by
  refine Ev.step (fun q => rows_reader_small.l0.eq_2 ..) ?_
  refine ev_pos hk ?_
  refine ev_one ht ?_
  by_cases h9 : k = 9
  · refine ev_pos h9 ?_
    by_cases hc : c > 1
    · refine ev_pos hc ?_
      rw [show x = true by simp [hx, h9, hc]] at h
      exact h
    · refine ev_neg hc ?_
      refine ev_pos (by omega) ?_
      by_cases h0 : c = 0
      · refine ev_pos h0 ?_
        rw [show x = (e' == 0) by rw [hx]; simp [hc, h0, show k > 0 by omega]; rfl] at h
        exact h
      · refine ev_neg h0 ?_
        rw [show x = false by simp [hx, hc, h0]] at h
        exact h
  · refine ev_neg h9 ?_
    by_cases hk0 : k > 0
    · refine ev_pos hk0 ?_
      by_cases h0 : c = 0
      · refine ev_pos h0 ?_
        rw [show x = (e' == 0) by rw [hx]; simp [h9, h0, hk0]; rfl] at h
        exact h
      · refine ev_neg h0 ?_
        rw [show x = false by simp [hx, h9, h0]] at h
        exact h
    · refine ev_neg hk0 ?_
      rw [show x = false by simp [hx, h9, hk0]] at h
      exact h
theorem small_j (n : Int) (k : Nat) (c : Int) (x : Bool) (b : List Int) (e e' : Int) (r : Int × List Int × Int) (hk : k ≤ 9) (he : e' = if x = true then (if e = 0 then 12 else e) else e)
    (h : if c < 128 then r = (more n c k, b, e') else Ev (fun q => rows_reader_small.l0 q (more n c k) ((k + 1 : Nat) : Int) b e') r) : Ev (fun q => rows_reader_small.j1 q n k c k x b e) r := by
  have hw : 0 ≤ IntKind.u64.wrap (wrap64 (7 * (k : Int))) := by
    rw [wrap_in (by omega) (by omega), wrap_u64 (by omega) (by omega)]
    omega
  have hw1 : wrap64 ((k : Int) + 1) = ((k + 1 : Nat) : Int) := by rw [wrap_in (by omega) (by omega)]; omega
  refine Ev.step (fun q => rows_reader_small.j1.eq_2 ..) ?_
  rw [hw1]
  by_cases hx : x = true
  · refine ev_pos hx ?_
    rw [if_pos hx] at he
    have hf : rows_place_fail.f b e 12 = some (b, e') := by
      by_cases h0 : e = 0
      · rw [h0, fail_ok, he, if_pos h0]
      · rw [fail_err b h0, he, if_neg h0]
    refine ev_one hf ?_
    refine ev_pos hw ?_
    by_cases hc : c < 128
    · refine ev_pos hc ?_
      rw [if_pos hc] at h
      rw [h]
      exact Ev.now _
    · refine ev_neg hc ?_
      rw [if_neg hc] at h
      exact h
  · refine ev_neg hx ?_
    rw [if_neg hx] at he
    refine ev_pos hw ?_
    by_cases hc : c < 128
    · refine ev_pos hc ?_
      rw [if_pos hc] at h
      rw [h, he]
      exact Ev.now _
    · refine ev_neg hc ?_
      rw [if_neg hc, he] at h
      exact h
theorem small_end (n : Int) (b : List Int) (e : Int) : Ev (fun q => rows_reader_small.l0 q n ((10 : Nat) : Int) b e) (n, b, e) := by
  refine Ev.step (fun q => rows_reader_small.l0.eq_2 ..) ?_
  exact ev_neg (by omega) (Ev.now _)
/-- an error stays -/
theorem small_err (n : Int) (k : Nat) (b : List Int) (e : Int) (he : ¬ e = 0) (hk : k ≤ 9) : ∃ r, Ev (fun q => rows_reader_small.l0 q n k b e) r ∧ r.2.2 = e := by
  refine ⟨(more n 0 k, b, e), ?_, rfl⟩
  refine small_step n k b b e e 0 _ (by omega) (take1_err b he) false (by simp [he]) ?_
  exact small_j n k 0 false b e e _ hk (by simp) (by rw [if_pos (by omega)])
theorem small_fail (n : Int) (k : Nat) (c : Int) (t : List Int) (hk : k ≤ 9) (hb : bad k c = true) (hc : 0 ≤ c ∧ c ≤ 255) : ∃ r, Ev (fun q => rows_reader_small.l0 q n k (c :: t) 0) r ∧ r.2.2 = 12 := by
  have hx : true = ((decide ((k : Int) = 9) && decide (c > 1)) || (decide ((k : Int) > 0) && (decide (c = 0) && decide ((0 : Int) = 0)))) := by
    unfold bad at hb
    simpa using hb.symm
  by_cases hc1 : c < 128
  · refine ⟨(more n c k, t, 12), ?_, rfl⟩
    refine small_step n k (c :: t) t 0 0 c _ (by omega) (take1_cons c t) true hx ?_
    exact small_j n k c true t 0 12 _ hk (by simp) (by rw [if_pos hc1])
  · refine ⟨(more n c k, t, 12), ?_, rfl⟩
    refine small_step n k (c :: t) t 0 0 c _ (by omega) (take1_cons c t) true hx ?_
    refine small_j n k c true t 0 12 _ hk (by simp) ?_
    rw [if_neg hc1]
    have hk9 : k = 9 := by
      simp only [bad, Bool.or_eq_true, Bool.and_eq_true, decide_eq_true_eq] at hb
      omega
    subst hk9
    exact small_end _ _ _
theorem small_go (n k : Nat) (c : Int) (t : List Int) (r : Int × List Int × Int) (hk : k ≤ 9) (hb : bad k c = false) (hc : 0 ≤ c ∧ c ≤ 255) (hn : n < 2 ^ (7 * k))
    (h : if c < 128 then r = (((n + c.toNat * 2 ^ (7 * k) : Nat) : Int), t, 0) else Ev (fun q => rows_reader_small.l0 q ((n + (c % 128).toNat * 2 ^ (7 * k) : Nat) : Int) ((k + 1 : Nat) : Int) t 0) r) : Ev (fun q => rows_reader_small.l0 q (n : Int) (k : Int) (c :: t) 0) r := by
  have hx : false = ((decide ((k : Int) = 9) && decide (c > 1)) || (decide ((k : Int) > 0) && (decide (c = 0) && decide ((0 : Int) = 0)))) := by
    unfold bad at hb
    simpa using hb.symm
  have h9 : k = 9 → c ≤ 1 := by
    intro h9
    subst h9
    simp [bad] at hb
    omega
  refine small_step n k (c :: t) t 0 0 c _ (by omega) (take1_cons c t) false hx ?_
  refine small_j n k c false t 0 0 _ hk (by simp) ?_
  rw [more_eq hc hk hn h9]
  by_cases hc1 : c < 128
  · rw [if_pos hc1] at h ⊢
    rw [h, show c % 128 = c by omega]
  · rw [if_neg hc1] at h ⊢
    exact h
theorem more_parts (C m : Nat) (h0 : 128 ≤ C) (h1 : C < 256) : (C - 128 + 128 * m) / 128 = m ∧ (C - 128 + 128 * m) % 128 + 128 = C ∧ (0 < m → ¬ C - 128 + 128 * m < 128) := by omega
theorem pow7_succ (k : Nat) : (2 : Nat) ^ (7 * (k + 1)) = 128 * 2 ^ (7 * k) := by
  rw [show 7 * (k + 1) = 7 + 7 * k by omega, Nat.pow_add]
/-- putting, then reading: any small number -/
theorem small_back : ∀ (j k n m : Nat) (rest : List Int), j + k = 9 → n < 2 ^ (7 * k) → (0 < k → 0 < m) → m < 2 * 128 ^ j → Ev (fun q => rows_reader_small.l0 q (n : Int) (k : Int) (smallB m ++ rest) 0) (((n + m * 2 ^ (7 * k) : Nat) : Int), rest, 0)
  | j, k, n, m, rest, hj, hn, hm, hlt => by
    by_cases h128 : m < 128
    · rw [smallB_one h128]
      refine small_go n k m rest _ (by omega) ?_ (by omega) hn ?_
      · simp only [bad, Bool.or_eq_false_iff, Bool.and_eq_false_iff, decide_eq_false_iff_not]
        constructor
        · by_cases h9 : k = 9
          · have : j = 0 := by omega
            subst this
            right
            omega
          · left
            omega
        · by_cases h0 : k = 0
          · left
            omega
          · right
            have := hm (by omega)
            omega
      · rw [if_pos (by omega), Int.toNat_natCast]
    · cases j with
      | zero => omega
      | succ j =>
        rw [smallB_more h128, List.cons_append]
        refine small_go n k ((m % 128 + 128 : Nat) : Int) (smallB (m / 128) ++ rest) _ (by omega) ?_ (by omega) hn ?_
        · simp only [bad, Bool.or_eq_false_iff, Bool.and_eq_false_iff, decide_eq_false_iff_not]
          exact ⟨.inl (by omega), .inr (by omega)⟩
        · rw [if_neg (by omega)]
          have e : ((((m % 128 + 128 : Nat) : Int)) % 128).toNat = m % 128 := by omega
          rw [e]
          have hp : 0 < (2 : Nat) ^ (7 * k) := Nat.pow_pos (by omega)
          have hmul : m % 128 * 2 ^ (7 * k) ≤ 127 * 2 ^ (7 * k) := Nat.mul_le_mul_right _ (by omega)
          have hn2 : n + m % 128 * 2 ^ (7 * k) < 2 ^ (7 * (k + 1)) := by rw [pow7_succ]; omega
          have := small_back j (k + 1) (n + m % 128 * 2 ^ (7 * k)) (m / 128) rest (by omega) hn2 (fun _ => by omega) (by
            rw [Nat.pow_succ] at hlt
            omega)
          refine ev_to this ?_
          have e2 : n + m % 128 * 2 ^ (7 * k) + m / 128 * 2 ^ (7 * (k + 1)) = n + m * 2 ^ (7 * k) := by
            rw [pow7_succ, ← Nat.mul_assoc, Nat.add_assoc, ← Nat.add_mul]
            congr 2
            omega
          rw [e2]
/-- what is read is a number's bytes, or there is an error -/
theorem small_any : ∀ (j k n : Nat) (b : List Int), j + k = 9 → n < 2 ^ (7 * k) → isB b → ∃ r : Int × List Int × Int, Ev (fun q => rows_reader_small.l0 q (n : Int) (k : Int) b 0) r ∧ (r.2.2 = 0 → ∃ m : Nat, b = smallB m ++ r.2.1 ∧ r.1 = ((n + m * 2 ^ (7 * k) : Nat) : Int) ∧ (0 < k → 0 < m) ∧ m < 2 * 128 ^ j)
  | j, k, n, [], hj, hn, hb => by
    refine ⟨(more n 0 k, [], 13), ?_, fun h => absurd h (by simp)⟩
    refine small_step n k [] [] 0 13 0 _ (by omega) take1_nil false (by simp) ?_
    exact small_j n k 0 false [] 13 13 _ (by omega) (by simp) (by rw [if_pos (by omega)])
  | j, k, n, c :: t, hj, hn, hb => by
    have hc := hb c List.mem_cons_self
    by_cases hbad : bad k c = true
    · obtain ⟨r, h1, h2⟩ := small_fail n k c t (by omega) hbad hc
      exact ⟨r, h1, fun h => by rw [h2] at h; exact absurd h (by decide)⟩
    · have hbad' : bad k c = false := by simpa using hbad
      have hbb := hbad'
      simp only [bad, Bool.or_eq_false_iff, Bool.and_eq_false_iff, decide_eq_false_iff_not] at hbb
      obtain ⟨C, rfl⟩ := Int.eq_ofNat_of_zero_le hc.1
      by_cases hc1 : C < 128
      · refine ⟨(((n + C * 2 ^ (7 * k) : Nat) : Int), t, 0), ?_, fun _ => ⟨C, ?_, rfl, fun h0 => ?_, ?_⟩⟩
        · refine small_go n k C t _ (by omega) hbad' hc hn ?_
          rw [if_pos (by omega), Int.toNat_natCast]
        · rw [smallB_one hc1]; rfl
        · rcases hbb.2 with h | h <;> omega
        · by_cases h9 : k = 9
          · have : j = 0 := by omega
            subst this
            rcases hbb.1 with h | h <;> omega
          · have h1 : (128 : Nat) ^ 1 ≤ 128 ^ j := Nat.pow_le_pow_right (by omega) (by omega)
            omega
      · cases j with
        | zero => rcases hbb.1 with h | h <;> omega
        | succ j =>
          have hp : 0 < (2 : Nat) ^ (7 * k) := Nat.pow_pos (by omega)
          have e : (((C : Int)) % 128).toNat = C - 128 := by omega
          have hmul : (C - 128) * 2 ^ (7 * k) ≤ 127 * 2 ^ (7 * k) := Nat.mul_le_mul_right _ (by omega)
          have hn2 : n + (C - 128) * 2 ^ (7 * k) < 2 ^ (7 * (k + 1)) := by rw [pow7_succ]; omega
          obtain ⟨r, h1, h2⟩ := small_any j (k + 1) (n + (C - 128) * 2 ^ (7 * k)) t (by omega) hn2 (isB_tail hb)
          refine ⟨r, ?_, fun h => ?_⟩
          · refine small_go n k C t _ (by omega) hbad' hc hn ?_
            rw [if_neg (by omega), e]
            exact h1
          · obtain ⟨m, g1, g2, g3, g4⟩ := h2 h
            have hm := g3 (Nat.succ_pos k)
            have hC1 : 128 ≤ C := Nat.le_of_not_lt hc1
            have hC2 : C < 256 := by clear g1 g2 g3 g4 h1 h2 h hn hn2 hmul hp hbb; omega
            obtain ⟨p1, p2, p3⟩ := more_parts C m hC1 hC2
            refine ⟨C - 128 + 128 * m, ?_, ?_, fun _ => ?_, ?_⟩
            · rw [smallB_more (p3 hm), p1, p2, List.cons_append, ← g1]
            · rw [g2]
              have e2 : n + (C - 128) * 2 ^ (7 * k) + m * 2 ^ (7 * (k + 1)) = n + (C - 128 + 128 * m) * 2 ^ (7 * k) := by
                rw [pow7_succ, Nat.add_mul, Nat.add_assoc, Nat.mul_comm 128 m, Nat.mul_assoc m 128]
              rw [e2]
            · exact Nat.lt_of_lt_of_le hm (Nat.le_trans (Nat.le_mul_of_pos_left m (by decide : 0 < 128)) (Nat.le_add_left _ _))
            · rw [Nat.pow_succ]
              clear g1 g2 g3 h1 h2 h hn hn2 hmul hp hbb
              generalize 128 ^ j = q at g4 ⊢
              omega
theorem smallf_back (m : Nat) (hm : m < 18446744073709551616) (rest : List Int) : Ev (fun q => rows_reader_small.f q (smallB m ++ rest) 0) ((m : Int), rest, 0) := by
  have := small_back 9 0 0 m rest (by omega) (by decide) (fun h => by omega) (by
    have : 2 * 128 ^ 9 = 18446744073709551616 := by decide
    omega)
  refine ev_to this ?_
  simp
theorem smallf_any (b : List Int) (hb : isB b) : ∃ r : Int × List Int × Int, Ev (fun q => rows_reader_small.f q b 0) r ∧ (r.2.2 = 0 → ∃ m : Nat, b = smallB m ++ r.2.1 ∧ r.1 = (m : Int) ∧ m < 18446744073709551616) := by
  obtain ⟨r, h1, h2⟩ := small_any 9 0 0 b (by omega) (by decide) hb
  refine ⟨r, h1, fun h => ?_⟩
  obtain ⟨m, g1, g2, g3, g4⟩ := h2 h
  refine ⟨m, g1, by rw [g2]; simp, ?_⟩
  have : 2 * 128 ^ 9 = 18446744073709551616 := by decide
  omega
theorem smallf_err (b : List Int) {e : Int} (he : ¬ e = 0) : ∃ r : Int × List Int × Int, Ev (fun q => rows_reader_small.f q b e) r ∧ r.2.2 = e := small_err 0 0 b e he (by omega)
theorem xor_i64_zero (A : Nat) (h : A < 9223372036854775808) : Go.bits .xor .i64 (A : Int) 0 = (A : Int) := by
  show IntKind.i64.wrap ((BitVec.ofInt 64 (A : Int) ^^^ BitVec.ofInt 64 0).toNat : Int) = _
  have h1 : (BitVec.ofInt 64 0).toNat = 0 := by decide
  have h2 : (BitVec.ofInt 64 (A : Int)).toNat = A := by
    rw [BitVec.ofInt_natCast, BitVec.toNat_ofNat]; exact Nat.mod_eq_of_lt (by omega)
  rw [BitVec.toNat_xor, h1, h2, Nat.xor_zero, IntKind.wrap_i64]
  omega
theorem xor_i64_comm (a b : Int) : Go.bits .xor .i64 a b = Go.bits .xor .i64 b a := by
  show IntKind.i64.wrap ((BitVec.ofInt 64 a ^^^ BitVec.ofInt 64 b).toNat : Int) = IntKind.i64.wrap ((BitVec.ofInt 64 b ^^^ BitVec.ofInt 64 a).toNat : Int)
  rw [BitVec.xor_comm]
/-- a number and its sign, back -/
theorem back_zig {a : Int} (ha : in64 a) : rows_back.f ((Lib.zigzag a : Nat) : Int) = some a := by
  unfold in64 at ha
  have hz := Lib.zigzag_lt ha.1 ha.2
  unfold rows_back.f
  rw [Lib.u64_and1 _ (by omega) (by omega)]
  congr 1
  by_cases h : 0 ≤ a
  · have e : Lib.zigzag a = (2 * a).toNat := by unfold Lib.zigzag; rw [if_pos h]
    have e1 : ((Lib.zigzag a : Nat) : Int) = 2 * a := by omega
    rw [e1, show 2 * a / 2 = a by omega, show 2 * a % 2 = 0 by omega]
    rw [wrap_in (x := a) (by omega) (by omega), show wrap64 0 = 0 from wrap_in (by omega) (by omega), show wrap64 (-0) = 0 from wrap_in (by omega) (by omega)]
    obtain ⟨A, rfl⟩ := Int.eq_ofNat_of_zero_le h
    exact xor_i64_zero A (by omega)
  · have e1 : ((Lib.zigzag a : Nat) : Int) = -(2 * a) - 1 := by unfold Lib.zigzag; rw [if_neg h]; omega
    rw [e1, show (-(2 * a) - 1) / 2 = -a - 1 by omega, show (-(2 * a) - 1) % 2 = 1 by omega]
    rw [wrap_in (x := -a - 1) (by omega) (by omega), show wrap64 1 = 1 from wrap_in (by omega) (by omega), show wrap64 (-1) = -1 from wrap_in (by omega) (by omega)]
    obtain ⟨A, hA⟩ := Int.eq_ofNat_of_zero_le (show 0 ≤ -a - 1 by omega)
    rw [hA]
    have := Lib.i64_not A (by omega)
    rw [xor_i64_comm, this]
    omega
theorem zig_all (m : Nat) (hm : m < 18446744073709551616) : ∃ a, in64 a ∧ Lib.zigzag a = m := by
  by_cases h : m % 2 = 0
  · refine ⟨(m / 2 : Nat), ⟨by omega, by omega⟩, ?_⟩
    unfold Lib.zigzag
    rw [if_pos (by omega)]
    omega
  · refine ⟨-((m / 2 : Nat) : Int) - 1, ⟨by omega, by omega⟩, ?_⟩
    unfold Lib.zigzag
    rw [if_neg (by omega)]
    omega
end Go.Proofs.Ytlbjipdkihoojaa.RowsW
