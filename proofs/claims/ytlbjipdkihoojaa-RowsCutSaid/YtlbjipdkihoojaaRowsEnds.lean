/- A beginning of a row's bytes ends too early. -/
import Derived.Test.YtlbjipdkihoojaaRowsGet3
namespace Go.Proofs.Ytlbjipdkihoojaa.RowsW
set_option linter.unusedVariables false
set_option linter.unusedSimpArgs false
open Go Go.RowKit Go.Proofs.Ytlbjipdkihoojaa.Q Go.Proofs.YtlbjipdkihoojaaW.PrintWords Go.Proofs.Ytlbjipdkihoojaa.Aux Go.Proofs.Ytlbjipdkihoojaa.By

theorem small_cut : ∀ (j k n m : Nat) (p q : List Int), j + k = 9 → n < 2 ^ (7 * k) → (0 < k → 0 < m) → m < 2 * 128 ^ j → smallB m = p ++ q → q ≠ [] → ∃ r : Int × List Int × Int, Ev (fun z => rows_reader_small.l0 z (n : Int) (k : Int) p 0) r ∧ r.2.2 = 13
  | j, k, n, m, [], q, hj, hn, hm, hlt, he, hq => by
    refine ⟨(more n 0 k, [], 13), ?_, rfl⟩
    refine small_step n k [] [] 0 13 0 _ (by omega) take1_nil false (by simp) ?_
    exact small_j n k 0 false [] 13 13 _ (by omega) (by simp) (by rw [if_pos (by omega)])
  | j, k, n, m, c :: p, q, hj, hn, hm, hlt, he, hq => by
    by_cases h128 : m < 128
    · rw [smallB_one h128] at he
      have := congrArg List.length he
      simp at this
      exact absurd this.2 hq
    · cases j with
      | zero => omega
      | succ j =>
        rw [smallB_more h128, List.cons_append] at he
        obtain ⟨hc, he2⟩ := List.cons.inj he
        have e : ((((m % 128 + 128 : Nat) : Int)) % 128).toNat = m % 128 := by omega
        have hp : 0 < (2 : Nat) ^ (7 * k) := Nat.pow_pos (by omega)
        have hmul : m % 128 * 2 ^ (7 * k) ≤ 127 * 2 ^ (7 * k) := Nat.mul_le_mul_right _ (by omega)
        have hn2 : n + m % 128 * 2 ^ (7 * k) < 2 ^ (7 * (k + 1)) := by rw [pow7_succ]; omega
        obtain ⟨r, h1, h2⟩ := small_cut j (k + 1) (n + m % 128 * 2 ^ (7 * k)) (m / 128) p q (by omega) hn2 (fun _ => by omega) (by
          rw [Nat.pow_succ] at hlt
          omega) he2 hq
        refine ⟨r, ?_, h2⟩
        rw [← hc]
        refine small_go n k ((m % 128 + 128 : Nat) : Int) p _ (by omega) ?_ (by omega) hn ?_
        · simp only [bad, Bool.or_eq_false_iff, Bool.and_eq_false_iff, decide_eq_false_iff_not]
          exact ⟨.inl (by omega), .inr (by omega)⟩
        · rw [if_neg (by omega), e]
          exact h1
theorem smallf_cut (m : Nat) (hm : m < 18446744073709551616) (p q : List Int) (he : smallB m = p ++ q) (hq : q ≠ []) : ∃ r : Int × List Int × Int, Ev (fun z => rows_reader_small.f z p 0) r ∧ r.2.2 = 13 :=
  small_cut 9 0 0 m p q (by omega) (by decide) (fun h => by omega) (by
    have : 2 * 128 ^ 9 = 18446744073709551616 := by decide
    omega) he hq
theorem text_cut (s : ByteArray) (hs : s.size ≤ 32) (p q : List Int) (he : (s.size : Int) :: B s = p ++ q) (hq : q ≠ []) : ∃ r : ByteArray × List Int × Int, Ev (fun z => rows_reader_text.f z p 0) r ∧ r.2.2 = 13 := by
  have hb := B_size s
  unfold rows_reader_text.f
  cases p with
  | nil =>
    obtain ⟨x, hx⟩ := takes_err [] (e := 13) (by decide) 0 (by omega)
    refine ⟨(x, [], 13), ?_, rfl⟩
    refine ev_one take1_nil ?_
    simp only [show wrap64 0 = ((0 : Nat) : Int) from wrap_in (by omega) (by omega)]
    refine ev_neg (by omega) ?_
    refine ev_one hx ?_
    exact ev_neg (by simp) (Ev.now _)
  | cons c p =>
    rw [List.cons_append] at he
    obtain ⟨hc, he2⟩ := List.cons.inj he
    have hl := congrArg List.length he2
    rw [List.length_append, hb] at hl
    have hql : 0 < q.length := List.length_pos_iff.2 hq
    obtain ⟨x, hx⟩ := takes_few p s.size (by omega) (by omega)
    refine ⟨(x, p, 13), ?_, rfl⟩
    rw [← hc]
    refine ev_one (take1_cons _ _) ?_
    have hw : wrap64 (s.size : Int) = (s.size : Int) := wrap_in (by omega) (by omega)
    simp only [hw]
    refine ev_neg (by omega) ?_
    refine ev_one hx ?_
    exact ev_neg (by simp) (Ev.now _)
theorem value_cut (v : S45) (hr : right v = true) (hi : in64 v.f1) (p q : List Int) (he : valB v = p ++ q) (hq : q ≠ []) : ∃ r : Int × Int × ByteArray × List Int × Int, Ev (fun z => rows_reader_value.f z p 0 v.f0) r ∧ r.2.2.2.2 = 13 := by
  have hk := right_kind hr
  unfold rows_reader_value.f
  by_cases h1 : v.f0 = 1
  · have hv : valB v = smallB (Lib.zigzag v.f1) := by simp [valB, h1]
    rw [hv] at he
    obtain ⟨r, g1, g2⟩ := smallf_cut _ (Lib.zigzag_lt hi.1 hi.2) p q he hq
    obtain ⟨y, hy⟩ : ∃ y, rows_back.f r.1 = some y := ⟨_, rfl⟩
    refine ⟨(v.f0, y, (⟨#[]⟩ : ByteArray), r.2.1, r.2.2), ?_, g2⟩
    refine ev_pos h1 ?_
    refine Ev.bind g1 ?_
    exact ev_one hy (Ev.now _)
  · by_cases h2 : v.f0 = 2
    · have hv : valB v = [v.f1 % 256] := by simp [valB, h2]
      rw [hv] at he
      have hp : p = [] := by
        cases p with
        | nil => rfl
        | cons c t =>
          have := congrArg List.length he
          simp at this
          exact absurd this.2 hq
      subst hp
      refine ⟨(v.f0, wrap64 0, (⟨#[]⟩ : ByteArray), [], 13), ?_, rfl⟩
      refine ev_neg h1 ?_
      refine ev_pos h2 ?_
      refine ev_one take1_nil ?_
      exact ev_neg (by simp) (Ev.now _)
    · by_cases h3 : v.f0 = 3
      · have hv : valB v = (v.f2.size : Int) :: B v.f2 := by simp [valB, h3]
        rw [hv] at he
        obtain ⟨r, g1, g2⟩ := text_cut v.f2 (right_size hr h3) p q he hq
        refine ⟨(v.f0, 0, r.1, r.2.1, r.2.2), ?_, g2⟩
        refine ev_neg h1 ?_
        refine ev_neg h2 ?_
        refine ev_pos h3 ?_
        exact Ev.bind g1 (Ev.now _)
      · have hv : valB v = [] := by simp [valB, h1, h2, h3]
        rw [hv] at he
        exact absurd (List.append_eq_nil_iff.1 he.symm).2 hq
theorem get_cut (K many : Nat) (hK : K < 65536) (hmany : many ≤ 6) (n : Int) : ∀ (l : List S45) (i : Nat) (acc : List S45) (p q : List Int), i + l.length = many → acc.length = i → l.all right = true → (∀ v ∈ l, in64 v.f1) → kinds l = K / 4 ^ i → bodyB l = p ++ q → q ≠ [] → ∃ r : Int × List S45 × Int × List Int × Int, Ev (fun z => rows_Get.l0 z (K : Int) (many : Int) (i : Int) p 0 n acc) r ∧ r.2.2.1 = 13
  | [], i, acc, p, q, hi, ha, hr, h64, hk, he, hq => by
    simp only [bodyB] at he
    exact absurd (List.append_eq_nil_iff.1 he.symm).2 hq
  | v :: l, i, acc, p, q, hi, ha, hr, h64, hk, he, hq => by
    rw [List.all_cons, Bool.and_eq_true] at hr
    simp only [List.length_cons] at hi
    have hacc : acc.length < 4398046511104 := by clear he hk; omega
    have hi6 : i ≤ 6 := by clear he hk; omega
    have him : (i : Int) < (many : Int) := by clear he hk; omega
    have hi1 : i + 1 + l.length = many := by clear he hk; omega
    have ha1 : ∀ v : S45, (acc ++ [v]).length = i + 1 := by intro v; rw [List.length_append]; simp only [List.length_cons, List.length_nil]; clear he hk; omega
    have hv := right_kind hr.1
    simp only [kinds] at hk
    simp only [bodyB] at he
    have hkv : ((K / 4 ^ i % 4 : Nat) : Int) = v.f0 := by omega
    have hkl : kinds l = K / 4 ^ (i + 1) := by
      rw [Nat.pow_succ, ← Nat.div_div_eq_div_mul, ← hk]
      omega
    have hw : 0 ≤ IntKind.u64.wrap (wrap64 (2 * (i : Int))) := shift_pos i (Nat.le_trans hi6 (by decide))
    have hw1 : wrap64 ((i : Int) + 1) = ((i + 1 : Nat) : Int) := by clear he hk; rw [wrap_in (by omega) (by omega)]; omega
    have whole : ∀ p', p = valB v ++ p' → bodyB l = p' ++ q → ∃ r : Int × List S45 × Int × List Int × Int, Ev (fun z => rows_Get.l0 z (K : Int) (many : Int) (i : Int) p 0 n acc) r ∧ r.2.2.1 = 13 := by
      intro p' e1 e2
      obtain ⟨r, g1, g2⟩ := get_cut K many hK hmany n l (i + 1) (acc ++ [v]) p' q hi1 (ha1 v) hr.2 (fun x hx => h64 x (List.mem_cons_of_mem _ hx)) hkl e2 hq
      refine ⟨r, ?_, g2⟩
      refine Ev.step (fun z => rows_Get.l0.eq_2 ..) ?_
      refine ev_pos him ?_
      refine ev_pos hw ?_
      rw [kind_at K i hK hi6, hkv, e1]
      refine Ev.bind (value_back v hr.1 (h64 v List.mem_cons_self) p') ?_
      refine ev_pos hacc ?_
      simp only [s45_eta]
      rw [hw1]
      exact g1
    rcases List.append_eq_append_iff.1 he with ⟨a', e1, e2⟩ | ⟨c', e1, e2⟩
    · exact whole a' e1 e2
    · by_cases hc : c' = []
      · subst hc
        exact whole [] (by rw [e1]; simp) (by rw [e2]; simp)
      · obtain ⟨r, g1, g2⟩ := value_cut v hr.1 (h64 v List.mem_cons_self) p c' e1 hc
        obtain ⟨r', h3, h4, h5, h6⟩ := get_err K many hK hmany n 13 (by decide) l.length (i + 1) r.2.2.2.1 (acc ++ [(⟨r.1, r.2.1, r.2.2.1⟩ : S45)]) hi1 (Nat.le_of_eq (ha1 _))
        refine ⟨r', ?_, h6⟩
        refine Ev.step (fun z => rows_Get.l0.eq_2 ..) ?_
        refine ev_pos him ?_
        refine ev_pos hw ?_
        rw [kind_at K i hK hi6, hkv]
        refine Ev.bind g1 ?_
        refine ev_pos hacc ?_
        rw [hw1, g2]
        exact h3
theorem j0_cut (N : Nat) (hN : N < 9223372036854775808) (l : List S45) (hl : l.length ≤ 6) (hr : l.all right = true) (h64 : ∀ v ∈ l, in64 v.f1) (p q : List Int) (he : [(l.length : Int), ((kinds l % 256 : Nat) : Int), ((kinds l / 256 : Nat) : Int)] ++ bodyB l = p ++ q) (hq : q ≠ []) : ∃ r, Ev (fun z => rows_Get.j0 z (N : Int) p 0) r ∧ r.2.2.1 = 13 := by
  obtain ⟨hk, hk6⟩ := kinds_lt6 hl hr
  have hw : wrap64 (l.length : Int) = (l.length : Int) := wrap_in (by omega) (by omega)
  simp only [List.cons_append, List.nil_append] at he
  cases p with
  | nil =>
    refine ⟨(0, [], 13, [], 13), ?_, rfl⟩
    refine Ev.step (fun z => rows_Get.j0.eq_2 ..) ?_
    refine ev_one take1_nil ?_
    refine ev_neg (by rw [wrap_in (by omega) (by omega)]; omega) ?_
    exact j1_err _ _ _ _ (by decide)
  | cons c t =>
    rw [List.cons_append] at he
    have hc := (List.cons.inj he).1
    have he2 := (List.cons.inj he).2
    clear he
    subst hc
    have hstep : ∀ r, Ev (fun z => rows_Get.j1 z (N : Int) (l.length : Int) t 0) r → Ev (fun z => rows_Get.j0 z (N : Int) ((l.length : Int) :: t) 0) r := by
      intro r hr
      refine Ev.step (fun z => rows_Get.j0.eq_2 ..) ?_
      refine ev_one (take1_cons _ _) ?_
      simp only [hw]
      exact ev_neg (by omega) hr
    by_cases h2 : t.length < 2
    · obtain ⟨x, hx⟩ := take2_few t h2
      refine ⟨(0, [], 13, t, 13), hstep _ ?_, rfl⟩
      refine Ev.step (fun z => rows_Get.j1.eq_2 ..) ?_
      refine ev_one hx ?_
      exact ev_neg (by simp) (Ev.now _)
    · obtain ⟨x, y, p2, rfl⟩ : ∃ x y p2, t = x :: y :: p2 := by
        rcases t with _ | ⟨x, _ | ⟨y, p2⟩⟩
        · exact absurd (by simp) h2
        · exact absurd (by simp) h2
        · exact ⟨x, y, p2, rfl⟩
      simp only [List.cons_append] at he2
      have hx := (List.cons.inj he2).1
      have he3 := (List.cons.inj he2).2
      have hy := (List.cons.inj he3).1
      have he4 := (List.cons.inj he3).2
      clear he2 he3
      subst hx
      subst hy
      obtain ⟨r, g1, g2⟩ := get_cut (kinds l) l.length hk6 hl (N : Int) l 0 [] p2 q (by omega) rfl hr h64 (by simp) he4 hq
      refine ⟨r, hstep _ ?_, g2⟩
      refine Ev.step (fun z => rows_Get.j1.eq_2 ..) ?_
      refine ev_one (take2_ok (kinds l % 256) (kinds l / 256) _ (by omega) (by omega)) ?_
      rw [show kinds l % 256 + 256 * (kinds l / 256) = kinds l by omega]
      refine ev_pos rfl ?_
      refine ev_pos (shift_pos l.length (by omega)) ?_
      rw [shr_at (kinds l) l.length hk6 (by omega), Nat.div_eq_of_lt hk]
      refine ev_pos rfl ?_
      rw [wrap_in (x := (N : Int)) (by omega) (by omega)]
      exact g1
theorem getf_cut (n : Int) (l : List S45) (hc : check n l = 0) (hn : in64 n) (h64 : ∀ v ∈ l, in64 v.f1) (p q : List Int) (he : (put n l).1 = p ++ q) (hq : q ≠ []) : ∃ r : Int × List S45 × Int, Ev (fun z => rows_Get.f z p) r ∧ r.2.2 = 13 := by
  obtain ⟨hl, hn0, hr⟩ := check_ok hc
  unfold in64 at hn
  obtain ⟨N, rfl⟩ := Int.eq_ofNat_of_zero_le hn0
  have hput : (put (N : Int) l).1 = smallB N ++ ([(l.length : Int), ((kinds l % 256 : Nat) : Int), ((kinds l / 256 : Nat) : Int)] ++ bodyB l) := by
    unfold put
    rw [if_pos hc, Int.toNat_natCast]
  rw [hput] at he
  have fin : (∃ r, Ev (fun z => rows_Get.h z p 0) r ∧ r.2.2.1 = 13) → ∃ r : Int × List S45 × Int, Ev (fun z => rows_Get.f z p) r ∧ r.2.2 = 13 := by
    rintro ⟨r, g1, g2⟩
    refine ⟨(r.1, r.2.1, r.2.2.1), ?_, g2⟩
    unfold rows_Get.f
    exact Ev.bind g1 (Ev.now _)
  apply fin
  unfold rows_Get.h
  have whole : ∀ p', p = smallB N ++ p' → [(l.length : Int), ((kinds l % 256 : Nat) : Int), ((kinds l / 256 : Nat) : Int)] ++ bodyB l = p' ++ q → ∃ r, Ev (fun k => (rows_reader_small.f k p 0).bind fun bt => (if bt.1 ≥ 9223372036854775808 then ((rows_place_fail.f bt.2.1 bt.2.2 12).bind fun bu => (rows_Get.j0 k bt.1 bu.1 bu.2)) else (rows_Get.j0 k bt.1 bt.2.1 bt.2.2))) r ∧ r.2.2.1 = 13 := by
    intro p' e1 e2
    obtain ⟨r, g1, g2⟩ := j0_cut N (by omega) l hl hr h64 p' q e2 hq
    refine ⟨r, ?_, g2⟩
    rw [e1]
    refine Ev.bind (smallf_back N (by omega) p') ?_
    refine ev_neg (by simp only; omega) ?_
    exact g1
  rcases List.append_eq_append_iff.1 he with ⟨a', e1, e2⟩ | ⟨c', e1, e2⟩
  · exact whole a' e1 e2
  · by_cases hc' : c' = []
    · subst hc'
      exact whole [] (by rw [e1]; simp) (by rw [e2]; simp)
    · obtain ⟨s, h1, h2⟩ := smallf_cut N (by omega) p c' e1 hc'
      have h0 : ¬ s.2.2 = 0 := by rw [h2]; decide
      refine ⟨(0, [], s.2.2, s.2.1, s.2.2), ?_, h2⟩
      refine Ev.bind h1 ?_
      by_cases hbig : s.1 ≥ 9223372036854775808
      · refine ev_pos hbig ?_
        refine ev_one (fail_err s.2.1 h0 12) ?_
        exact j0_err _ _ _ h0
      · refine ev_neg hbig ?_
        exact j0_err _ _ _ h0
end Go.Proofs.Ytlbjipdkihoojaa.RowsW
