/- A row out of bytes, wholly. -/
import Derived.Test.YtlbjipdkihoojaaRowsGet2
namespace Go.Proofs.Ytlbjipdkihoojaa.RowsW
set_option linter.unusedVariables false
set_option linter.unusedSimpArgs false
open Go Go.RowKit Go.Proofs.Ytlbjipdkihoojaa.Q Go.Proofs.YtlbjipdkihoojaaW.PrintWords Go.Proofs.Ytlbjipdkihoojaa.Aux Go.Proofs.Ytlbjipdkihoojaa.By

theorem j1_err (n many : Int) (b : List Int) (e : Int) (he : ¬ e = 0) : Ev (fun q => rows_Get.j1 q n many b e) (0, [], e, b, e) := by
  refine Ev.step (fun q => rows_Get.j1.eq_2 ..) ?_
  obtain ⟨x, hx⟩ := take2_err b he
  refine ev_one hx ?_
  exact ev_neg he (Ev.now _)
theorem j0_err (n : Int) (b : List Int) (e : Int) (he : ¬ e = 0) : Ev (fun q => rows_Get.j0 q n b e) (0, [], e, b, e) := by
  refine Ev.step (fun q => rows_Get.j0.eq_2 ..) ?_
  refine ev_one (take1_err b he) ?_
  refine ev_neg (by rw [wrap_in (by omega) (by omega)]; omega) ?_
  exact j1_err _ _ _ _ he
theorem kinds_lt6 {l : List S45} (hl : l.length ≤ 6) (hr : l.all right = true) : kinds l < 4 ^ l.length ∧ kinds l < 65536 := by
  have h := kinds_lt l (fun v hv => by
    have := right_kind (List.all_eq_true.1 hr v hv)
    omega)
  have h6 : (4 : Nat) ^ l.length ≤ 4 ^ 6 := Nat.pow_le_pow_right (by omega) hl
  exact ⟨h, by omega⟩
theorem shift_pos (many : Nat) (hm : many ≤ 255) : 0 ≤ IntKind.u64.wrap (wrap64 (2 * (many : Int))) := by
  rw [wrap_in (by omega) (by omega), wrap_u64 (by omega) (by omega)]
  omega
/-- behind the number -/
theorem j0_back (N : Nat) (hN : N < 9223372036854775808) (l : List S45) (hl : l.length ≤ 6) (hr : l.all right = true) (h64 : ∀ v ∈ l, in64 v.f1) (more : List Int) : Ev (fun q => rows_Get.j0 q (N : Int) ([(l.length : Int), ((kinds l % 256 : Nat) : Int), ((kinds l / 256 : Nat) : Int)] ++ bodyB l ++ more) 0) (if more = [] then ((N : Int), l, 0, more, 0) else (0, [], 14, more, 14)) := by
  obtain ⟨hk, hk6⟩ := kinds_lt6 hl hr
  have hw : wrap64 (l.length : Int) = (l.length : Int) := wrap_in (by omega) (by omega)
  refine Ev.step (fun q => rows_Get.j0.eq_2 ..) ?_
  simp only [List.cons_append, List.nil_append]
  refine ev_one (take1_cons _ _) ?_
  simp only [hw]
  refine ev_neg (by omega) ?_
  refine Ev.step (fun q => rows_Get.j1.eq_2 ..) ?_
  refine ev_one (take2_ok (kinds l % 256) (kinds l / 256) _ (by omega) (by omega)) ?_
  rw [show kinds l % 256 + 256 * (kinds l / 256) = kinds l by omega]
  refine ev_pos rfl ?_
  refine ev_pos (shift_pos l.length (by omega)) ?_
  rw [shr_at (kinds l) l.length hk6 (by omega), Nat.div_eq_of_lt hk]
  refine ev_pos rfl ?_
  rw [wrap_in (x := (N : Int)) (by omega) (by omega)]
  have := get_back (kinds l) l.length hk6 hl (N : Int) more l 0 [] (by omega) rfl hr h64 (by simp)
  refine ev_to this ?_
  simp
theorem geth_back (n : Int) (l : List S45) (hc : check n l = 0) (hn : in64 n) (h64 : ∀ v ∈ l, in64 v.f1) (more : List Int) : Ev (fun q => rows_Get.h q ((put n l).1 ++ more) 0) (if more = [] then (n, l, 0, more, 0) else (0, [], 14, more, 14)) := by
  obtain ⟨hl, hn0, hr⟩ := check_ok hc
  unfold in64 at hn
  obtain ⟨N, rfl⟩ := Int.eq_ofNat_of_zero_le hn0
  have hput : (put (N : Int) l).1 = smallB N ++ ([(l.length : Int), ((kinds l % 256 : Nat) : Int), ((kinds l / 256 : Nat) : Int)] ++ bodyB l) := by
    unfold put
    rw [if_pos hc, Int.toNat_natCast]
  rw [hput, List.append_assoc]
  unfold rows_Get.h
  refine Ev.bind (smallf_back N (by omega) _) ?_
  refine ev_neg (by simp only; omega) ?_
  exact j0_back N (by omega) l hl hr h64 more
theorem getf_back (n : Int) (l : List S45) (hc : check n l = 0) (hn : in64 n) (h64 : ∀ v ∈ l, in64 v.f1) (more : List Int) : Ev (fun q => rows_Get.f q ((put n l).1 ++ more)) (if more = [] then (n, l, 0) else (0, [], 14)) := by
  have := geth_back n l hc hn h64 more
  unfold rows_Get.f
  refine Ev.bind this ?_
  refine ev_to (Ev.now _) ?_
  by_cases h : more = []
  · simp [h]
  · simp [h]
def Good (b : List Int) (r : Int × List S45 × Int × List Int × Int) : Prop := (r.2.2.1 = 0 → put r.1 r.2.1 = (b, 0) ∧ in64 r.1 ∧ (∀ v ∈ r.2.1, in64 v.f1) ∧ r.2.1.length ≤ 6) ∧ (¬ r.2.2.1 = 0 → r.1 = 0 ∧ r.2.1 = [])
theorem good_err (b : List Int) (e : Int) (he : ¬ e = 0) (c : List Int) (f : Int) : Good b (0, [], e, c, f) := ⟨fun h => absurd h he, fun _ => ⟨rfl, rfl⟩⟩
theorem j0_any (N : Nat) (hN : N < 9223372036854775808) (b : List Int) (hb : isB b) : ∃ r, Ev (fun q => rows_Get.j0 q (N : Int) b 0) r ∧ Good (smallB N ++ b) r := by
  cases b with
  | nil =>
    refine ⟨_, ?_, good_err _ 13 (by decide) [] 13⟩
    refine Ev.step (fun q => rows_Get.j0.eq_2 ..) ?_
    refine ev_one take1_nil ?_
    refine ev_neg (by rw [wrap_in (by omega) (by omega)]; omega) ?_
    exact j1_err _ _ _ _ (by decide)
  | cons c t =>
    have hc := hb c List.mem_cons_self
    obtain ⟨C, rfl⟩ := Int.eq_ofNat_of_zero_le hc.1
    have hw : wrap64 (C : Int) = (C : Int) := wrap_in (by omega) (by omega)
    by_cases h6 : C > 6
    · refine ⟨_, ?_, good_err _ 12 (by decide) t 12⟩
      refine Ev.step (fun q => rows_Get.j0.eq_2 ..) ?_
      refine ev_one (take1_cons _ _) ?_
      simp only [hw]
      refine ev_pos (by omega) ?_
      refine ev_one (fail_ok t 12) ?_
      exact j1_err _ _ _ _ (by simp)
    · have hstep : ∀ r, Ev (fun q => rows_Get.j1 q (N : Int) (C : Int) t 0) r → Ev (fun q => rows_Get.j0 q (N : Int) ((C : Int) :: t) 0) r := by
        intro r hr
        refine Ev.step (fun q => rows_Get.j0.eq_2 ..) ?_
        refine ev_one (take1_cons _ _) ?_
        simp only [hw]
        exact ev_neg (by omega) hr
      by_cases h2 : t.length < 2
      · obtain ⟨x, hx⟩ := take2_few t h2
        refine ⟨_, hstep _ ?_, good_err _ 13 (by decide) t 13⟩
        refine Ev.step (fun q => rows_Get.j1.eq_2 ..) ?_
        refine ev_one hx ?_
        exact ev_neg (by simp) (Ev.now _)
      · obtain ⟨x, y, t', rfl⟩ : ∃ x y t', t = x :: y :: t' := by
          match t, h2 with
          | x :: y :: t', _ => exact ⟨x, y, t', rfl⟩
          | [], h => exact absurd (by simp) h
          | [x], h => exact absurd (by simp) h
        have hx := hb x (by simp)
        have hy := hb y (by simp)
        obtain ⟨X, rfl⟩ := Int.eq_ofNat_of_zero_le hx.1
        obtain ⟨Y, rfl⟩ := Int.eq_ofNat_of_zero_le hy.1
        have hK : X + 256 * Y < 65536 := by omega
        have hbt : isB t' := isB_tail (isB_tail (isB_tail hb))
        by_cases h0 : (X + 256 * Y) / 4 ^ C = 0
        · have hp : 0 < (4 : Nat) ^ C := Nat.pow_pos (by omega)
          have hlt : (X + 256 * Y) / 4 ^ 0 < 4 ^ C := by
            rw [Nat.pow_zero, Nat.div_one]
            rcases Nat.div_eq_zero_iff.1 h0 with h | h
            · omega
            · exact h
          obtain ⟨r, h1, h3, h4⟩ := get_any (X + 256 * Y) C hK (by omega) (N : Int) C 0 t' [] (by omega) rfl hbt hlt
          refine ⟨r, hstep _ ?_, fun h => ?_, h4⟩
          · refine Ev.step (fun q => rows_Get.j1.eq_2 ..) ?_
            refine ev_one (take2_ok X Y t' (by omega) (by omega)) ?_
            refine ev_pos rfl ?_
            refine ev_pos (shift_pos C (by omega)) ?_
            rw [shr_at (X + 256 * Y) C hK (by omega), h0]
            refine ev_pos rfl ?_
            rw [wrap_in (x := (N : Int)) (by omega) (by omega)]
            exact h1
          · obtain ⟨l, g1, g2, g3, g4, g5, g6, g7⟩ := h3 h
            rw [List.nil_append] at g2
            rw [Nat.pow_zero, Nat.div_one] at g7
            rw [g1, g2]
            have hck : check (N : Int) l = 0 := by
              unfold check
              rw [if_neg (by omega), if_neg (by omega), if_pos g4]
            refine ⟨?_, ⟨by omega, by omega⟩, g5, by omega⟩
            unfold put
            rw [if_pos hck, Int.toNat_natCast, g3, g7, show (X + 256 * Y) % 256 = X by omega, show (X + 256 * Y) / 256 = Y by omega, g6]
            rfl
        · refine ⟨_, hstep _ ?_, good_err _ 12 (by decide) t' 0⟩
          refine Ev.step (fun q => rows_Get.j1.eq_2 ..) ?_
          refine ev_one (take2_ok X Y t' (by omega) (by omega)) ?_
          refine ev_pos rfl ?_
          refine ev_pos (shift_pos C (by omega)) ?_
          rw [shr_at (X + 256 * Y) C hK (by omega)]
          exact ev_neg (by omega) (Ev.now _)
theorem geth_any (b : List Int) (hb : isB b) : ∃ r, Ev (fun q => rows_Get.h q b 0) r ∧ Good b r := by
  obtain ⟨s, h1, h2⟩ := smallf_any b hb
  unfold rows_Get.h
  by_cases h0 : s.2.2 = 0
  · obtain ⟨m, e1, e2, e3⟩ := h2 h0
    by_cases hbig : m ≥ 9223372036854775808
    · refine ⟨_, ?_, good_err b 12 (by decide) s.2.1 12⟩
      refine Ev.bind h1 ?_
      refine ev_pos (by omega) ?_
      rw [h0]
      refine ev_one (fail_ok s.2.1 12) ?_
      exact j0_err _ _ _ (by simp)
    · have hbs : isB s.2.1 := isB_right (a := smallB m) (by rw [← e1]; exact hb)
      obtain ⟨r, g1, g2⟩ := j0_any m (by omega) s.2.1 hbs
      rw [← e1] at g2
      refine ⟨r, ?_, g2⟩
      refine Ev.bind h1 ?_
      refine ev_neg (by omega) ?_
      rw [h0, e2]
      exact g1
  · refine ⟨_, ?_, good_err b s.2.2 h0 s.2.1 s.2.2⟩
    refine Ev.bind h1 ?_
    by_cases hbig : s.1 ≥ 9223372036854775808
    · refine ev_pos hbig ?_
      refine ev_one (fail_err s.2.1 h0 12) ?_
      exact j0_err _ _ _ h0
    · refine ev_neg hbig ?_
      exact j0_err _ _ _ h0
theorem getf_any (b : List Int) (hb : isB b) : ∃ r : Int × List S45 × Int, Ev (fun q => rows_Get.f q b) r ∧ (r.2.2 = 0 → put r.1 r.2.1 = (b, 0) ∧ in64 r.1 ∧ (∀ v ∈ r.2.1, in64 v.f1) ∧ r.2.1.length ≤ 6) ∧ (¬ r.2.2 = 0 → r.1 = 0 ∧ r.2.1 = []) := by
  obtain ⟨r, h1, h2, h3⟩ := geth_any b hb
  refine ⟨(r.1, r.2.1, r.2.2.1), ?_, h2, h3⟩
  unfold rows_Get.f
  exact Ev.bind h1 (Ev.now _)
end Go.Proofs.Ytlbjipdkihoojaa.RowsW
