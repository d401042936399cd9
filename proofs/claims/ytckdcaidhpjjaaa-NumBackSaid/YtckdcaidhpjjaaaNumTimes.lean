/- Products: the program's test by a quotient and the reference's test behind the product come to one plain word. -/
import Derived.Test.YtckdcaidhpjjaaaNum
import Derived.Test.YtckdcaidhpjjaaaStNumProducts
namespace Go.Proofs.Ytckdcaidhpjjaaa.Num
set_option linter.unusedVariables false
open Go Go.RowKit Go.Proofs.Ytckdcaidhpjjaaa.Q Go.Proofs.YtckdcaidhpjjaaaW.PrintWords Go.Proofs.Ytckdcaidhpjjaaa.Aux

theorem rover_f {a b : Int} (ha : in64 a) : registrarref01_Over.f a b = some (over a b) := (show registrarref01_Over.f a b = num_Over.f a b from rfl).trans (over_f ha)
theorem rrest_f {a b : Int} (ha : in64 a) : registrarref01_Rest.f a b = some (rest a b) := by
  unfold registrarref01_Rest.f
  rw [rover_f ha]
  simp only [Option.bind_some]
  unfold over rest
  by_cases hb : b = 0
  · simp [hb]
  · rw [if_neg hb, if_neg hb]
    by_cases h1 : a = -9223372036854775808 ∧ b = -1
    · rw [if_pos h1]
      obtain ⟨rfl, rfl⟩ := h1
      rfl
    · rw [if_neg h1]
      have h := tdiv_in ha hb h1
      rw [res_in h]
      simp only [if_true]
      have h2 := Int.tmod_add_mul_tdiv a b
      have h3 : in64 (Int.tmod a b) := by
        have h4 : (Int.tmod a b).natAbs = a.natAbs % b.natAbs := Int.natAbs_tmod a b
        have h5 : a.natAbs % b.natAbs ≤ a.natAbs := Nat.mod_le _ _
        unfold in64 at ha ⊢
        have h6 : Int.tmod a b < 0 → a < 0 := by
          intro h
          rcases (show a < 0 ∨ 0 ≤ a by omega) with h7 | h7
          · exact h7
          · have := Int.tmod_nonneg b h7
            omega
        have h8 : a < 0 → Int.tmod a b ≤ 0 := by
          intro h
          have := Int.tmod_nonneg (a := -a) b (by omega)
          rw [Int.neg_tmod] at this
          omega
        omega
      have h4 : b * Int.tdiv a b = a - Int.tmod a b := by omega
      rw [h4]
      have e : wrap64 (a - wrap64 (a - Int.tmod a b)) = Int.tmod a b := by
        unfold in64 at ha h3
        unfold wrap64
        omega
      rw [e]
theorem res_out {x : Int} (h : ¬ in64 x) : res x = (0, 10) := if_neg h

theorem rt_j1t (a b : Int) : Ev (fun k => registrarref01_Times.j1 k a b true) (0, 10) := by
  refine Ev.step (fun k => registrarref01_Times.j1.eq_2 ..) ?_
  exact ev_pos rfl (Ev.now _)
theorem rt_j1f {a b : Int} (ha : in64 a) (hb : in64 b) (h0 : b ≠ 0) (h : ¬ (a = -1 ∧ b = -9223372036854775808)) (h' : ¬ (b = -1 ∧ a = -9223372036854775808)) :
    Ev (fun k => registrarref01_Times.j1 k a b false) (res (a * b)) := by
  refine Ev.step (fun k => registrarref01_Times.j1.eq_2 ..) ?_
  refine ev_neg (by decide) ?_
  refine ev_neg h0 ?_
  by_cases hin : in64 (a * b)
  · rw [wrap_id hin, res_in hin, Int.mul_tdiv_cancel a h0, wrap_id ha]
    refine ev_pos rfl ?_
    rw [Int.mul_comm, Int.mul_tmod_right]
    exact ev_pos rfl (Ev.now _)
  · rw [res_out hin]
    by_cases h1 : wrap64 (Int.tdiv (wrap64 (a * b)) b) = a
    · refine ev_pos h1 ?_
      by_cases h2 : Int.tmod (wrap64 (a * b)) b = 0
      · exfalso
        have hw : in64 (wrap64 (a * b)) := by unfold in64 wrap64; omega
        have h3 := Int.tmod_add_mul_tdiv (wrap64 (a * b)) b
        rw [h2] at h3
        by_cases hx : wrap64 (a * b) = -9223372036854775808 ∧ b = -1
        · obtain ⟨hx1, rfl⟩ := hx
          rw [hx1] at h1
          have : a = -9223372036854775808 := by
            rw [← h1]
            decide +kernel
          exact h' ⟨rfl, this⟩
        · have h4 := tdiv_in hw h0 hx
          rw [wrap_id h4] at h1
          rw [h1] at h3
          apply hin
          rw [Int.mul_comm]
          have : b * a = wrap64 (a * b) := by omega
          rw [this]
          exact hw
      · exact ev_neg h2 (Ev.now _)
    · exact ev_neg h1 (Ev.now _)
theorem rtimes_f {a b : Int} (ha : in64 a) (hb : in64 b) : Ev (fun k => registrarref01_Times.f k a b) (res (a * b)) := by
  unfold registrarref01_Times.f
  by_cases a0 : a = 0
  · subst a0
    refine ev_pos rfl ?_
    refine Ev.step (fun k => registrarref01_Times.j0.eq_2 ..) ?_
    refine ev_pos rfl ?_
    rw [Int.zero_mul]
    exact Ev.now _
  · refine ev_neg a0 ?_
    by_cases b0 : b = 0
    · subst b0
      refine Ev.step (fun k => registrarref01_Times.j0.eq_2 ..) ?_
      refine ev_pos (by simp) ?_
      rw [Int.mul_zero]
      exact Ev.now _
    · refine Ev.step (fun k => registrarref01_Times.j0.eq_2 ..) ?_
      refine ev_neg (by simp [b0]) ?_
      have bad : ∀ x, in64 x → x = -9223372036854775808 → res (-1 * x) = (0, 10) := by
        intro x hx e
        subst e
        rfl
      by_cases a1 : a = -1
      · refine ev_pos a1 ?_
        by_cases bl : b = -9223372036854775808
        · refine ev_pos bl ?_
          rw [a1, bad b hb bl]
          exact rt_j1t _ _
        · refine ev_neg bl ?_
          by_cases b1 : b = -1
          · refine ev_pos b1 ?_
            rw [show (a == -9223372036854775808) = false by rw [a1]; rfl]
            exact rt_j1f ha hb b0 (fun z => bl z.2) (fun z => by rw [a1] at z; exact absurd z.2 (by decide))
          · refine ev_neg b1 ?_
            exact rt_j1f ha hb b0 (fun z => bl z.2) (fun z => b1 z.1)
      · refine ev_neg a1 ?_
        by_cases b1 : b = -1
        · refine ev_pos b1 ?_
          by_cases al : a = -9223372036854775808
          · rw [show (a == -9223372036854775808) = true by rw [al]; rfl, b1, Int.mul_comm, bad a ha al]
            exact rt_j1t _ _
          · rw [show (a == -9223372036854775808) = false by simp [al]]
            exact rt_j1f ha hb b0 (fun z => a1 z.1) (fun z => al z.2)
        · refine ev_neg b1 ?_
          exact rt_j1f ha hb b0 (fun z => a1 z.1) (fun z => b1 z.1)

/-- a quotient of the greatest number by another one -/
theorem quot_in {M y : Int} (h0 : 0 ≤ M) (hM : M ≤ 9223372036854775808) (hy : 1 ≤ y) : -9223372036854775808 ≤ -(M / y) ∧ M / y ≤ 9223372036854775808 := by
  have := div_in1 h0 hy
  omega
theorem times_pp {a b : Int} (ha : 0 < a) (hb : 0 < b) (h2 : a ≤ 9223372036854775807) : (a > wrap64 ((9223372036854775807 : Int) / b)) ↔ ¬ in64 (a * b) := by
  have h1 := div_in1 (M := 9223372036854775807) (y := b) (by omega) (by omega)
  rw [wrap_in (by omega) (by omega), mul_bound hb]
  have h3 : 0 < a * b := Int.mul_pos ha hb
  unfold in64
  omega
theorem times_nn {a b : Int} (ha : a < 0) (hb : b < 0) (hb2 : b ≤ -2 ∨ b = -1) : (a < wrap64 ((9223372036854775807 : Int) / b)) ↔ ¬ in64 (a * b) := by
  have e : (9223372036854775807 : Int) / b = -((9223372036854775807 : Int) / (-b)) := by
    have := Int.ediv_neg (9223372036854775807 : Int) (-b)
    rw [Int.neg_neg] at this
    exact this
  have h1 := div_in1 (M := 9223372036854775807) (y := -b) (by omega) (by omega)
  rw [e, wrap_in (by omega) (by omega)]
  have h2 := mul_bound (x := -a) (y := -b) (M := 9223372036854775807) (by omega)
  rw [Int.neg_mul_neg] at h2
  have h3 : 0 < a * b := Int.mul_pos_of_neg_of_neg ha hb
  unfold in64
  constructor
  · intro h
    have := h2.1 (by omega)
    omega
  · intro h
    have := h2.2 (by omega)
    omega
theorem times_pn {a b : Int} (ha : 0 < a) (hb : b < 0) : (b < wrap64 (Int.tdiv (-9223372036854775808) a)) ↔ ¬ in64 (a * b) := by
  have e : Int.tdiv (-9223372036854775808) a = -((9223372036854775808 : Int) / a) := by
    have h : Int.tdiv (-9223372036854775808) a = -(Int.tdiv 9223372036854775808 a) := Int.neg_tdiv (9223372036854775808 : Int) a
    have h5 : Int.tdiv 9223372036854775808 a = (9223372036854775808 : Int) / a := Int.tdiv_eq_ediv_of_nonneg (by omega)
    rw [h, h5]
  have h1 := div_in1 (M := 9223372036854775808) (y := a) (by omega) (by omega)
  rw [e, wrap_in (by omega) (by omega)]
  have h2 := mul_bound (x := -b) (y := a) (M := 9223372036854775808) ha
  have h4 : -b * a = -(a * b) := by rw [Int.neg_mul, Int.mul_comm]
  rw [h4] at h2
  have h3 : a * b < 0 := Int.mul_neg_of_pos_of_neg ha hb
  unfold in64
  constructor
  · intro h
    have := h2.1 (by omega)
    omega
  · intro h
    have := h2.2 (by omega)
    omega
theorem times_np {a b : Int} (ha : a < 0) (hb : 0 < b) : (a < wrap64 (Int.tdiv (-9223372036854775808) b)) ↔ ¬ in64 (a * b) := by
  have := times_pn hb ha
  rwa [Int.mul_comm] at this
theorem nt_end {a b : Int} {c : Prop} [Decidable c] (h : c ↔ ¬ in64 (a * b)) : (if c then some ((0 : Int), (10 : Int)) else some (wrap64 (a * b), 0)) = some (res (a * b)) := by
  by_cases x : in64 (a * b)
  · rw [if_neg (fun z => h.1 z x), wrap_id x, res_in x]
  · rw [if_pos (h.2 x), res_out x]
theorem times_f {a b : Int} (ha : in64 a) (hb : in64 b) : Ev (fun k => num_Times.f k a b) (res (a * b)) := by
  unfold num_Times.f
  by_cases a0 : a = 0
  · subst a0
    refine ev_pos rfl ?_
    refine Ev.step (fun k => num_Times.j0.eq_2 ..) ?_
    refine ev_pos rfl ?_
    rw [Int.zero_mul]
    exact Ev.now _
  · refine ev_neg a0 ?_
    refine Ev.step (fun k => num_Times.j0.eq_2 ..) ?_
    by_cases b0 : b = 0
    · subst b0
      refine ev_pos (by simp) ?_
      rw [Int.mul_zero]
      exact Ev.now _
    · refine ev_neg (by simp [b0]) ?_
      by_cases a1 : a = -1
      · refine ev_pos a1 ?_
        rw [a1]
        refine ev_one (back_f hb) ?_
        rw [show -1 * b = -b by omega]
        exact Ev.now _
      · refine ev_neg a1 ?_
        by_cases b1 : b = -1
        · refine ev_pos b1 ?_
          rw [b1]
          refine ev_one (back_f ha) ?_
          rw [show a * -1 = -a by omega]
          exact Ev.now _
        · refine ev_neg b1 ?_
          refine ev_is fun k => ?_
          have hb2 := hb.1
          have ha2 := ha.2
          rcases Int.lt_or_gt_of_ne a0 with han | hap
          · rcases Int.lt_or_gt_of_ne b0 with hbn | hbp
            · rw [if_pos (by rw [decide_eq_false (by omega), decide_eq_false (by omega)]; rfl), if_neg (by omega), if_pos han, if_neg b0]
              exact nt_end (times_nn han hbn (by omega))
            · rw [if_neg (by rw [decide_eq_false (by omega), decide_eq_true (by omega)]; decide), if_neg (by omega), if_pos han, if_neg b0]
              exact nt_end (times_np han hbp)
          · have hna : ¬ a < 0 := by omega
            simp only [if_neg hna]
            rcases Int.lt_or_gt_of_ne b0 with hbn | hbp
            · rw [if_neg (by rw [decide_eq_true (by omega), decide_eq_false (by omega)]; decide), if_pos hap, if_neg a0]
              exact nt_end (times_pn hap hbn)
            · rw [if_pos (by rw [decide_eq_true (by omega), decide_eq_true (by omega)]; rfl), if_pos hap, if_neg b0]
              exact nt_end (times_pp hap hbp ha2)
end Go.Proofs.Ytckdcaidhpjjaaa.Num
