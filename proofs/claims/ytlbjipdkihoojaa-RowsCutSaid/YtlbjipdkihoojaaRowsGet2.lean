/- A value, and a row, out of bytes. -/
import Derived.Test.YtlbjipdkihoojaaRowsGet
namespace Go.Proofs.Ytlbjipdkihoojaa.RowsW
set_option linter.unusedVariables false
set_option linter.unusedSimpArgs false
open Go Go.RowKit Go.Proofs.Ytlbjipdkihoojaa.Q Go.Proofs.YtlbjipdkihoojaaW.PrintWords Go.Proofs.Ytlbjipdkihoojaa.Aux Go.Proofs.Ytlbjipdkihoojaa.By

theorem nil_list : (⟨#[]⟩ : ByteArray).toList = ([] : List UInt8) := (toList_nil_iff _).2 rfl
theorem plainL_isB : ∀ {s : List Int}, plainL s = true → isB s
  | [], _ => fun x hx => by cases hx
  | c :: t, h => by
    simp [plainL] at h
    have ih := plainL_isB h.2.2
    intro x hx
    rcases List.mem_cons.1 hx with rfl | hx
    · omega
    · exact ih x hx
theorem takes_ok (s rest : List Int) (hs : s.length ≤ 1000) : rows_place_takes.f (s ++ rest) 0 (s.length : Int) = some (strOfNums s, rest, 0) := by
  unfold rows_place_takes.f
  rw [if_pos ⟨by omega, by omega⟩]
  simp only [rows_place_take.g, if_true, Int.toNat_natCast]
  rw [if_neg (by simp)]
  simp
theorem takes_few (b : List Int) (n : Nat) (hb : b.length < n) (hn : n ≤ 1000) : ∃ s, rows_place_takes.f b 0 (n : Int) = some (s, b, 13) := by
  unfold rows_place_takes.f
  rw [if_pos ⟨by omega, by omega⟩]
  simp only [rows_place_take.g, if_true, Int.toNat_natCast]
  rw [if_pos hb]
  exact ⟨_, rfl⟩
theorem takes_err (b : List Int) {e : Int} (he : ¬ e = 0) (n : Nat) (hn : n ≤ 1000) : ∃ s, rows_place_takes.f b e (n : Int) = some (s, b, e) := by
  unfold rows_place_takes.f
  rw [if_pos ⟨by omega, by omega⟩]
  simp only [rows_place_take.g, if_neg he, Int.toNat_natCast]
  exact ⟨_, rfl⟩
theorem rightT (s : ByteArray) (hs : s.size ≤ 32) : right (⟨3, 0, s⟩ : S45) = plainL (B s) := by
  simp [right, hs]
/-- a text's bytes are it -/
theorem text_back (s : ByteArray) (hs : s.size ≤ 32) (hp : plainL (B s) = true) (rest : List Int) : Ev (fun q => rows_reader_text.f q ((s.size : Int) :: (B s ++ rest)) 0) (s, rest, 0) := by
  have hb := B_size s
  unfold rows_reader_text.f
  refine ev_one (take1_cons _ _) ?_
  have hw : wrap64 (s.size : Int) = ((B s).length : Int) := by rw [wrap_in (by omega) (by omega), hb]
  simp only [hw]
  refine ev_neg (by omega) ?_
  refine ev_one (takes_ok (B s) rest (by omega)) ?_
  refine ev_pos rfl ?_
  rw [strOfNums_B]
  have hr := right_f (⟨3, 0, s⟩ : S45)
  rw [rightT s hs, hp] at hr
  refine Ev.bind hr ?_
  refine ev_pos rfl ?_
  exact Ev.now _
theorem text_any (b : List Int) (hb : isB b) : ∃ r : ByteArray × List Int × Int, Ev (fun q => rows_reader_text.f q b 0) r ∧ (r.2.2 = 0 → b = (r.1.size : Int) :: (B r.1 ++ r.2.1) ∧ r.1.size ≤ 32 ∧ plainL (B r.1) = true) := by
  unfold rows_reader_text.f
  cases b with
  | nil =>
    obtain ⟨s, hs⟩ := takes_err [] (e := 13) (by decide) 0 (by omega)
    refine ⟨(s, [], 13), ?_, fun h => absurd h (by simp)⟩
    refine ev_one take1_nil ?_
    simp only [show wrap64 0 = ((0 : Nat) : Int) from wrap_in (by omega) (by omega)]
    refine ev_neg (by omega) ?_
    refine ev_one hs ?_
    exact ev_neg (by simp) (Ev.now _)
  | cons c t =>
    have hc := hb c List.mem_cons_self
    obtain ⟨C, rfl⟩ := Int.eq_ofNat_of_zero_le hc.1
    have hw : wrap64 (C : Int) = (C : Int) := wrap_in (by omega) (by omega)
    by_cases h32 : C > 32
    · refine ⟨((⟨#[]⟩ : ByteArray), t, 12), ?_, fun h => absurd h (by simp)⟩
      refine ev_one (take1_cons _ _) ?_
      simp only [hw]
      refine ev_pos (by omega) ?_
      refine ev_one (fail_ok t 12) ?_
      exact Ev.now _
    · by_cases hl : t.length < C
      · obtain ⟨s, hs⟩ := takes_few t C hl (by omega)
        refine ⟨(s, t, 13), ?_, fun h => absurd h (by simp)⟩
        refine ev_one (take1_cons _ _) ?_
        simp only [hw]
        refine ev_neg (by omega) ?_
        refine ev_one hs ?_
        exact ev_neg (by simp) (Ev.now _)
      · have hlt : (t.take C).length = C := by rw [List.length_take]; omega
        have htk : t = t.take C ++ t.drop C := (List.take_append_drop C t).symm
        have hs := takes_ok (t.take C) (t.drop C) (by omega)
        rw [← htk, hlt] at hs
        have hBt : isB (t.take C) := fun x hx => hb x (List.mem_cons_of_mem _ (List.mem_of_mem_take hx))
        have hB := B_ofNums hBt
        have hsz := B_size (strOfNums (t.take C))
        rw [hB, hlt] at hsz
        have hr := right_f (⟨3, 0, strOfNums (t.take C)⟩ : S45)
        rw [rightT _ (by omega), hB] at hr
        by_cases hp : plainL (t.take C) = true
        · refine ⟨(strOfNums (t.take C), t.drop C, 0), ?_, fun _ => ⟨?_, by simp only; omega, by simp only [hB]; exact hp⟩⟩
          · refine ev_one (take1_cons _ _) ?_
            simp only [hw]
            refine ev_neg (by omega) ?_
            refine ev_one hs ?_
            refine ev_pos rfl ?_
            refine Ev.bind hr ?_
            exact ev_pos hp (Ev.now _)
          · simp only [hB, ← hsz, List.take_append_drop]
        · refine ⟨(strOfNums (t.take C), t.drop C, 12), ?_, fun h => absurd h (by simp)⟩
          refine ev_one (take1_cons _ _) ?_
          simp only [hw]
          refine ev_neg (by omega) ?_
          refine ev_one hs ?_
          refine ev_pos rfl ?_
          refine Ev.bind hr ?_
          refine ev_neg hp ?_
          refine ev_one (fail_ok _ 12) ?_
          exact Ev.now _
theorem text_err (b : List Int) {e : Int} (he : ¬ e = 0) : ∃ r : ByteArray × List Int × Int, Ev (fun q => rows_reader_text.f q b e) r ∧ r.2.2 = e := by
  obtain ⟨s, hs⟩ := takes_err b he 0 (by omega)
  refine ⟨(s, b, e), ?_, rfl⟩
  unfold rows_reader_text.f
  refine ev_one (take1_err b he) ?_
  simp only [show wrap64 0 = ((0 : Nat) : Int) from wrap_in (by omega) (by omega)]
  refine ev_neg (by omega) ?_
  refine ev_one hs ?_
  exact ev_neg he (Ev.now _)
theorem s45_eta (v : S45) : (⟨v.f0, v.f1, v.f2⟩ : S45) = v := by cases v; rfl
/-- a value's bytes are it -/
theorem value_back (v : S45) (hr : right v = true) (hi : in64 v.f1) (rest : List Int) : Ev (fun q => rows_reader_value.f q (valB v ++ rest) 0 v.f0) (v.f0, v.f1, v.f2, rest, 0) := by
  have hk := right_kind hr
  unfold rows_reader_value.f
  by_cases h1 : v.f0 = 1
  · refine ev_pos h1 ?_
    have hv : valB v = smallB (Lib.zigzag v.f1) := by simp [valB, h1]
    rw [hv]
    refine Ev.bind (smallf_back _ (Lib.zigzag_lt hi.1 hi.2) rest) ?_
    refine ev_one (back_zig hi) ?_
    refine ev_to (Ev.now _) ?_
    simp [right, h1] at hr
    rw [toList_eq_iff.1 (show v.f2.toList = (⟨#[]⟩ : ByteArray).toList by rw [hr, nil_list])]
  · refine ev_neg h1 ?_
    by_cases h2 : v.f0 = 2
    · refine ev_pos h2 ?_
      simp [right, h2] at hr
      have hv : valB v = [v.f1] := by simp [valB, h2]; omega
      rw [hv, List.singleton_append]
      refine ev_one (take1_cons _ _) ?_
      refine ev_neg (by simp only; omega) ?_
      refine ev_to (Ev.now _) ?_
      rw [toList_eq_iff.1 (show v.f2.toList = (⟨#[]⟩ : ByteArray).toList by rw [hr.1, nil_list]), wrap_in (by simp only; omega) (by simp only; omega)]
    · refine ev_neg h2 ?_
      by_cases h3 : v.f0 = 3
      · refine ev_pos h3 ?_
        have hs := right_size hr h3
        simp [right, h3] at hr
        have hv : valB v ++ rest = (v.f2.size : Int) :: (B v.f2 ++ rest) := by simp [valB, h3]
        rw [hv]
        refine Ev.bind (text_back v.f2 hs hr.2.2 rest) ?_
        refine ev_to (Ev.now _) ?_
        rw [hr.1]
      · refine ev_neg h3 ?_
        have h0 : v.f0 = 0 := by omega
        simp [right, h0] at hr
        have hv : valB v = [] := by simp [valB, h0]
        rw [hv, List.nil_append]
        refine ev_to (Ev.now _) ?_
        rw [h0, hr.1, toList_eq_iff.1 (show v.f2.toList = (⟨#[]⟩ : ByteArray).toList by rw [hr.2, nil_list])]
theorem value_any (b : List Int) (hb : isB b) (x : Int) (hx : 0 ≤ x ∧ x ≤ 3) : ∃ r : Int × Int × ByteArray × List Int × Int, Ev (fun q => rows_reader_value.f q b 0 x) r ∧ (r.2.2.2.2 = 0 → right (⟨r.1, r.2.1, r.2.2.1⟩ : S45) = true ∧ in64 r.2.1 ∧ r.1 = x ∧ b = valB (⟨r.1, r.2.1, r.2.2.1⟩ : S45) ++ r.2.2.2.1) := by
  unfold rows_reader_value.f
  by_cases h1 : x = 1
  · obtain ⟨r, g1, g2⟩ := smallf_any b hb
    by_cases h0 : r.2.2 = 0
    · obtain ⟨m, e1, e2, e3⟩ := g2 h0
      obtain ⟨a, ha, hz⟩ := zig_all m e3
      refine ⟨(x, a, (⟨#[]⟩ : ByteArray), r.2.1, r.2.2), ?_, fun _ => ⟨?_, ha, rfl, ?_⟩⟩
      · refine ev_pos h1 ?_
        refine Ev.bind g1 ?_
        have := back_zig ha
        rw [hz, ← e2] at this
        exact ev_one this (Ev.now _)
      · simp [right, h1, nil_list]
      · simp only [valB, h1, if_true, hz]
        exact e1
    · obtain ⟨y, hy⟩ : ∃ y, rows_back.f r.1 = some y := ⟨_, rfl⟩
      refine ⟨(x, y, (⟨#[]⟩ : ByteArray), r.2.1, r.2.2), ?_, fun h => absurd h h0⟩
      refine ev_pos h1 ?_
      refine Ev.bind g1 ?_
      exact ev_one hy (Ev.now _)
  · by_cases h2 : x = 2
    · cases b with
      | nil =>
        refine ⟨(x, wrap64 0, (⟨#[]⟩ : ByteArray), [], 13), ?_, fun h => absurd h (by simp)⟩
        refine ev_neg h1 ?_
        refine ev_pos h2 ?_
        refine ev_one take1_nil ?_
        exact ev_neg (by decide) (Ev.now _)
      | cons c t =>
        have hc := hb c List.mem_cons_self
        by_cases hc1 : c > 1
        · refine ⟨(x, wrap64 c, (⟨#[]⟩ : ByteArray), t, 12), ?_, fun h => absurd h (by simp)⟩
          refine ev_neg h1 ?_
          refine ev_pos h2 ?_
          refine ev_one (take1_cons _ _) ?_
          refine ev_pos hc1 ?_
          refine ev_one (fail_ok t 12) ?_
          exact Ev.now _
        · have hw : wrap64 c = c := wrap_in (by omega) (by omega)
          refine ⟨(x, wrap64 c, (⟨#[]⟩ : ByteArray), t, 0), ?_, fun _ => ⟨?_, ?_, rfl, ?_⟩⟩
          · refine ev_neg h1 ?_
            refine ev_pos h2 ?_
            refine ev_one (take1_cons _ _) ?_
            exact ev_neg hc1 (Ev.now _)
          · simp only [hw]
            simp [right, h2, nil_list]
            omega
          · simp only [hw]
            exact ⟨by omega, by omega⟩
          · simp only [hw]
            simp [valB, h2]
            omega
    · by_cases h3 : x = 3
      · obtain ⟨r, g1, g2⟩ := text_any b hb
        refine ⟨(x, 0, r.1, r.2.1, r.2.2), ?_, fun h0 => ?_⟩
        · refine ev_neg h1 ?_
          refine ev_neg h2 ?_
          refine ev_pos h3 ?_
          exact Ev.bind g1 (Ev.now _)
        · obtain ⟨e1, e2, e3⟩ := g2 h0
          refine ⟨?_, ⟨by simp only; omega, by simp only; omega⟩, rfl, ?_⟩
          · simp only [h3]
            rw [rightT _ e2, e3]
          · simp only [valB, h3]
            simpa using e1
      · refine ⟨(0, 0, (⟨#[]⟩ : ByteArray), b, 0), ?_, fun _ => ⟨?_, ⟨by simp only; omega, by simp only; omega⟩, by simp only; omega, ?_⟩⟩
        · refine ev_neg h1 ?_
          refine ev_neg h2 ?_
          exact ev_neg h3 (Ev.now _)
        · simp [right, nil_list]
        · simp [valB]
theorem value_err (b : List Int) {e : Int} (he : ¬ e = 0) (x : Int) : ∃ r : Int × Int × ByteArray × List Int × Int, Ev (fun q => rows_reader_value.f q b e x) r ∧ r.2.2.2.2 = e := by
  unfold rows_reader_value.f
  by_cases h1 : x = 1
  · obtain ⟨r, g1, g2⟩ := smallf_err b he
    obtain ⟨y, hy⟩ : ∃ y, rows_back.f r.1 = some y := ⟨_, rfl⟩
    refine ⟨(x, y, (⟨#[]⟩ : ByteArray), r.2.1, r.2.2), ?_, g2⟩
    refine ev_pos h1 ?_
    refine Ev.bind g1 ?_
    exact ev_one hy (Ev.now _)
  · by_cases h2 : x = 2
    · refine ⟨(x, wrap64 0, (⟨#[]⟩ : ByteArray), b, e), ?_, rfl⟩
      refine ev_neg h1 ?_
      refine ev_pos h2 ?_
      refine ev_one (take1_err b he) ?_
      exact ev_neg (by simp) (Ev.now _)
    · by_cases h3 : x = 3
      · obtain ⟨r, g1, g2⟩ := text_err b he
        refine ⟨(x, 0, r.1, r.2.1, r.2.2), ?_, g2⟩
        refine ev_neg h1 ?_
        refine ev_neg h2 ?_
        refine ev_pos h3 ?_
        exact Ev.bind g1 (Ev.now _)
      · refine ⟨(0, 0, (⟨#[]⟩ : ByteArray), b, e), ?_, rfl⟩
        refine ev_neg h1 ?_
        refine ev_neg h2 ?_
        exact ev_neg h3 (Ev.now _)
/-- the kind at a place -/
theorem kind_at (K i : Nat) (hK : K < 65536) (hi : i ≤ 6) : Go.bits .and .i64 (shr .i64 (K : Int) (IntKind.u64.wrap (wrap64 (2 * (i : Int))))) 3 = ((K / 4 ^ i % 4 : Nat) : Int) := by
  have hw : IntKind.u64.wrap (wrap64 (2 * (i : Int))) = ((2 * i : Nat) : Int) := by
    rw [wrap_in (by omega) (by omega), wrap_u64 (by omega) (by omega)]
    omega
  rw [hw]
  have hs : shr .i64 (K : Int) ((2 * i : Nat) : Int) = ((K / 4 ^ i : Nat) : Int) := by
    unfold shr
    have hm : min (((2 * i : Nat) : Int)).toNat IntKind.i64.bits = 2 * i := by
      have : IntKind.i64.bits = 64 := by decide
      rw [this]
      omega
    rw [hm]
    have e4 : (2 : Nat) ^ (2 * i) = 4 ^ i := by rw [Nat.pow_mul]
    rw [← e4]
    simp
  rw [hs]
  have hle : K / 4 ^ i ≤ K := Nat.div_le_self _ _
  generalize K / 4 ^ i = Q at hle ⊢
  have := bits_mask .i64 62 (by decide) (fun n h0 h1 => by rw [IntKind.wrap_i64]; omega) 2 (by decide) (Q : Int) (by omega) (by omega)
  have e : (2 : Int) ^ 2 - 1 = 3 := by decide
  rw [e] at this
  rw [this]
  omega
theorem shr_at (K i : Nat) (hK : K < 65536) (hi : i ≤ 255) : shr .i64 (K : Int) (IntKind.u64.wrap (wrap64 (2 * (i : Int)))) = ((K / 4 ^ i : Nat) : Int) := by
  have hw : IntKind.u64.wrap (wrap64 (2 * (i : Int))) = ((2 * i : Nat) : Int) := by
    rw [wrap_in (by omega) (by omega), wrap_u64 (by omega) (by omega)]
    omega
  rw [hw]
  unfold shr
  have h64 : IntKind.i64.bits = 64 := by decide
  rw [h64]
  by_cases h : 2 * i ≤ 64
  · rw [show min (((2 * i : Nat) : Int)).toNat 64 = 2 * i by omega]
    have e4 : (2 : Nat) ^ (2 * i) = 4 ^ i := by rw [Nat.pow_mul]
    rw [← e4]
    simp
  · rw [show min (((2 * i : Nat) : Int)).toNat 64 = 64 by omega]
    have h1 : (4 : Nat) ^ 32 ≤ 4 ^ i := Nat.pow_le_pow_right (by omega) (by omega)
    have h2 : K / 4 ^ i = 0 := Nat.div_eq_of_lt (by
      have : (4 : Nat) ^ 32 = 18446744073709551616 := by decide
      omega)
    rw [h2]
    omega
theorem j3_err (n : Int) (l : List S45) (b : List Int) (e : Int) (he : ¬ e = 0) : Ev (fun q => rows_Get.j3 q false b e n l) (0, [], e, b, e) := by
  refine Ev.step (fun q => rows_Get.j3.eq_2 ..) ?_
  refine ev_neg (by decide) ?_
  exact ev_neg he (Ev.now _)
/-- what ends a row -/
theorem get_end (K : Nat) (many : Nat) (n : Int) (l : List S45) (b : List Int) : Ev (fun q => rows_Get.l0 q (K : Int) (many : Int) (many : Int) b 0 n l) (if b = [] then (n, l, 0, b, 0) else (0, [], 14, b, 14)) := by
  refine Ev.step (fun q => rows_Get.l0.eq_2 ..) ?_
  refine ev_neg (by omega) ?_
  refine ev_pos rfl ?_
  refine ev_one (a := ((b.length : Int), b, 0)) rfl ?_
  refine Ev.step (fun q => rows_Get.j3.eq_2 ..) ?_
  by_cases hb : b = []
  · subst hb
    refine ev_neg (by simp) ?_
    refine ev_pos (show (0 : Int) = 0 from rfl) ?_
    exact Ev.now _
  · simp only [if_neg hb]
    have : 0 < b.length := List.length_pos_iff.2 hb
    refine ev_pos (by simp; omega) ?_
    refine ev_one (fail_ok b 14) ?_
    exact ev_neg (by simp) (Ev.now _)
/-- once there is an error, it stays -/
theorem get_err (K many : Nat) (hK : K < 65536) (hmany : many ≤ 6) (n : Int) (e : Int) (he : ¬ e = 0) : ∀ (m i : Nat) (b : List Int) (acc : List S45), i + m = many → acc.length ≤ i → ∃ r : Int × List S45 × Int × List Int × Int, Ev (fun q => rows_Get.l0 q (K : Int) (many : Int) (i : Int) b e n acc) r ∧ r.1 = 0 ∧ r.2.1 = [] ∧ r.2.2.1 = e
  | m, i, b, acc, hi, ha => by
    cases m with
    | zero =>
      have : i = many := by omega
      subst this
      refine ⟨(0, [], e, b, e), ?_, rfl, rfl, rfl⟩
      refine Ev.step (fun q => rows_Get.l0.eq_2 ..) ?_
      refine ev_neg (by omega) ?_
      refine ev_neg he ?_
      exact j3_err n acc b e he
    | succ m =>
      obtain ⟨r, h1, h2⟩ := value_err b he ((K / 4 ^ i % 4 : Nat) : Int)
      obtain ⟨r', h3, h4⟩ := get_err K many hK hmany n e he m (i + 1) r.2.2.2.1 (acc ++ [(⟨r.1, r.2.1, r.2.2.1⟩ : S45)]) (by omega) (by simp; omega)
      refine ⟨r', ?_, h4⟩
      refine Ev.step (fun q => rows_Get.l0.eq_2 ..) ?_
      have hw : 0 ≤ IntKind.u64.wrap (wrap64 (2 * (i : Int))) := by
        rw [wrap_in (by omega) (by omega), wrap_u64 (by omega) (by omega)]
        omega
      refine ev_pos (by omega) ?_
      refine ev_pos hw ?_
      rw [kind_at K i hK (by omega)]
      refine Ev.bind h1 ?_
      refine ev_pos (by omega) ?_
      rw [h2, show wrap64 ((i : Int) + 1) = ((i + 1 : Nat) : Int) by rw [wrap_in (by omega) (by omega)]; omega]
      exact h3
/-- putting, then reading: the values -/
theorem get_back (K many : Nat) (hK : K < 65536) (hmany : many ≤ 6) (n : Int) (more : List Int) : ∀ (l : List S45) (i : Nat) (acc : List S45), i + l.length = many → acc.length = i → l.all right = true → (∀ v ∈ l, in64 v.f1) → kinds l = K / 4 ^ i → Ev (fun q => rows_Get.l0 q (K : Int) (many : Int) (i : Int) (bodyB l ++ more) 0 n acc) (if more = [] then (n, acc ++ l, 0, more, 0) else (0, [], 14, more, 14))
  | [], i, acc, hi, ha, hr, h64, hk => by
    have : i = many := by simpa using hi
    subst this
    simpa [bodyB] using get_end K i n acc more
  | v :: l, i, acc, hi, ha, hr, h64, hk => by
    rw [List.all_cons, Bool.and_eq_true] at hr
    simp only [List.length_cons] at hi
    have hv := right_kind hr.1
    simp only [kinds] at hk
    have hp : 0 < (4 : Nat) ^ i := Nat.pow_pos (by omega)
    have hkv : ((K / 4 ^ i % 4 : Nat) : Int) = v.f0 := by omega
    have hkl : kinds l = K / 4 ^ (i + 1) := by
      rw [Nat.pow_succ, ← Nat.div_div_eq_div_mul, ← hk]
      omega
    have ih := get_back K many hK hmany n more l (i + 1) (acc ++ [v]) (by omega) (by simp; omega) hr.2 (fun x hx => h64 x (List.mem_cons_of_mem _ hx)) hkl
    refine Ev.step (fun q => rows_Get.l0.eq_2 ..) ?_
    have hw : 0 ≤ IntKind.u64.wrap (wrap64 (2 * (i : Int))) := by
      rw [wrap_in (by omega) (by omega), wrap_u64 (by omega) (by omega)]
      omega
    refine ev_pos (by omega) ?_
    refine ev_pos hw ?_
    rw [kind_at K i hK (by omega), hkv]
    have hb := value_back v hr.1 (h64 v List.mem_cons_self) (bodyB l ++ more)
    rw [← List.append_assoc] at hb
    refine Ev.bind hb ?_
    refine ev_pos (by omega) ?_
    simp only [s45_eta]
    rw [show wrap64 ((i : Int) + 1) = ((i + 1 : Nat) : Int) by rw [wrap_in (by omega) (by omega)]; omega]
    refine ev_to ih ?_
    simp
/-- what is read is values' bytes, or there is an error -/
theorem get_any (K many : Nat) (hK : K < 65536) (hmany : many ≤ 6) (n : Int) : ∀ (m i : Nat) (b : List Int) (acc : List S45), i + m = many → acc.length = i → isB b → K / 4 ^ i < 4 ^ m → ∃ r : Int × List S45 × Int × List Int × Int, Ev (fun q => rows_Get.l0 q (K : Int) (many : Int) (i : Int) b 0 n acc) r ∧ (r.2.2.1 = 0 → ∃ l, r.1 = n ∧ r.2.1 = acc ++ l ∧ l.length = m ∧ l.all right = true ∧ (∀ v ∈ l, in64 v.f1) ∧ b = bodyB l ∧ kinds l = K / 4 ^ i) ∧ (¬ r.2.2.1 = 0 → r.1 = 0 ∧ r.2.1 = [])
  | m, i, b, acc, hi, ha, hb, hk => by
    cases m with
    | zero =>
      have : i = many := by omega
      subst this
      refine ⟨_, get_end K i n acc b, ?_, ?_⟩
      · by_cases h : b = []
        · rw [if_pos h]
          exact fun _ => ⟨[], rfl, by simp, rfl, rfl, by simp, by simp [h, bodyB], by simp only [kinds]; exact (Nat.lt_one_iff.1 (by simpa using hk)).symm⟩
        · rw [if_neg h]
          exact fun h => absurd h (by simp)
      · by_cases h : b = []
        · rw [if_pos h]
          exact fun h => absurd rfl h
        · rw [if_neg h]
          exact fun _ => ⟨rfl, rfl⟩
    | succ m =>
      have hw : 0 ≤ IntKind.u64.wrap (wrap64 (2 * (i : Int))) := by
        rw [wrap_in (by omega) (by omega), wrap_u64 (by omega) (by omega)]
        omega
      have hw1 : wrap64 ((i : Int) + 1) = ((i + 1 : Nat) : Int) := by rw [wrap_in (by omega) (by omega)]; omega
      have hq4 : K / 4 ^ i % 4 < 4 := Nat.mod_lt _ (by decide)
      obtain ⟨r, h1, h2⟩ := value_any b hb ((K / 4 ^ i % 4 : Nat) : Int) ⟨Int.natCast_nonneg _, by generalize K / 4 ^ i % 4 = q at hq4 ⊢; omega⟩
      by_cases h0 : r.2.2.2.2 = 0
      · obtain ⟨e1, e2, e3, e4⟩ := h2 h0
        have hbr : isB r.2.2.2.1 := isB_right (a := valB (⟨r.1, r.2.1, r.2.2.1⟩ : S45)) (by rw [← e4]; exact hb)
        have hk2 : K / 4 ^ (i + 1) < 4 ^ m := by
          rw [Nat.pow_succ, ← Nat.div_div_eq_div_mul]
          rw [Nat.pow_succ] at hk
          omega
        obtain ⟨r', h3, h4, h5⟩ := get_any K many hK hmany n m (i + 1) r.2.2.2.1 (acc ++ [(⟨r.1, r.2.1, r.2.2.1⟩ : S45)]) (by omega) (by simp; omega) hbr hk2
        refine ⟨r', ?_, fun h => ?_, h5⟩
        · refine Ev.step (fun q => rows_Get.l0.eq_2 ..) ?_
          refine ev_pos (by omega) ?_
          refine ev_pos hw ?_
          rw [kind_at K i hK (by omega)]
          refine Ev.bind h1 ?_
          refine ev_pos (by omega) ?_
          rw [h0, hw1]
          exact h3
        · obtain ⟨l, g1, g2, g3, g4, g5, g6, g7⟩ := h4 h
          refine ⟨(⟨r.1, r.2.1, r.2.2.1⟩ : S45) :: l, g1, by rw [g2]; simp, by simp [g3], by simp [e1, g4], ?_, ?_, ?_⟩
          · intro v hv
            rcases List.mem_cons.1 hv with rfl | hv
            · exact e2
            · exact g5 v hv
          · simp only [bodyB]
            rw [← g6]
            exact e4
          · simp only [kinds]
            rw [g7, Nat.pow_succ, ← Nat.div_div_eq_div_mul]
            omega
      · obtain ⟨r', h3, h4, h5, h6⟩ := get_err K many hK hmany n r.2.2.2.2 h0 m (i + 1) r.2.2.2.1 (acc ++ [(⟨r.1, r.2.1, r.2.2.1⟩ : S45)]) (by omega) (by simp; omega)
        refine ⟨r', ?_, fun h => absurd h (by rw [h6]; exact h0), fun _ => ⟨h4, h5⟩⟩
        refine Ev.step (fun q => rows_Get.l0.eq_2 ..) ?_
        refine ev_pos (by omega) ?_
        refine ev_pos hw ?_
        rw [kind_at K i hK (by omega)]
        refine Ev.bind h1 ?_
        refine ev_pos (by omega) ?_
        rw [hw1]
        exact h3
theorem take2_err (b : List Int) {e : Int} (he : ¬ e = 0) : ∃ x, rows_place_take2.f b e = some (x, b, e) := by
  simp only [rows_place_take2.f, rows_place_take.g, if_neg he]
  exact ⟨_, rfl⟩
theorem take2_few (b : List Int) (hb : b.length < 2) : ∃ x, rows_place_take2.f b 0 = some (x, b, 13) := by
  simp only [rows_place_take2.f, rows_place_take.g, if_true, if_pos hb]
  exact ⟨_, rfl⟩
theorem take2_ok (x y : Nat) (t : List Int) (hx : x < 256) (hy : y < 256) : rows_place_take2.f ((x : Int) :: (y : Int) :: t) 0 = some (((x + 256 * y : Nat) : Int), t, 0) := by
  simp only [rows_place_take2.f, rows_place_take.g, if_true]
  rw [if_neg (by simp)]
  simp only [List.take_succ_cons, List.take_zero, List.drop_succ_cons, List.drop_zero, List.getD_cons_zero, List.getD_cons_succ]
  rw [wrap_in (x := (x : Int)) (by omega) (by omega), wrap_in (x := (y : Int)) (by omega) (by omega), wrap_in (x := (y : Int) * 256) (by omega) (by omega)]
  have hj := bits_join_low .i64 62 (by decide) (fun n h0 h1 => by rw [IntKind.wrap_i64]; omega) 8 (x : Int) ((y : Int) * 256) (by omega) (by omega) (by omega) (by omega) (by omega) (by omega)
  rw [hj]
  congr 2
  omega
end Go.Proofs.Ytlbjipdkihoojaa.RowsW
