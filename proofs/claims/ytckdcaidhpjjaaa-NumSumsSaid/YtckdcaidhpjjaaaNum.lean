/- Numbers: what the program's and the reference's sums, products and quotients come to, in one plain word. -/
import Derived.Test.YtckdcaidhpjjaaaAux
import Derived.Test.YtckdcaidhpjjaaaStNumSums
namespace Go.Proofs.Ytckdcaidhpjjaaa.Num
set_option linter.unusedVariables false
set_option linter.unusedSimpArgs false
open Go Go.RowKit Go.Proofs.Ytckdcaidhpjjaaa.Q Go.Proofs.YtckdcaidhpjjaaaW.PrintWords Go.Proofs.Ytckdcaidhpjjaaa.Aux

def in64 (x : Int) : Prop := -9223372036854775808 ≤ x ∧ x ≤ 9223372036854775807
/-- a number, if it can be, or the error -/
def res (x : Int) : Int × Int := if -9223372036854775808 ≤ x ∧ x ≤ 9223372036854775807 then (x, 0) else (0, 10)
theorem in64_wf {n : Int} (h : (Lit.int .i64 n).wf = true) : in64 n := by
  simp [Lit.wf, IntKind.min, IntKind.max, IntKind.bits, IntKind.signed] at h
  unfold in64
  omega

theorem plus_f {a b : Int} (ha : in64 a) (hb : in64 b) : num_Plus.f a b = some (res (a + b)) := by
  unfold in64 at ha hb
  unfold num_Plus.f res wrap64
  repeat' split
  all_goals first | rfl | (exfalso; omega) | (simp only [Option.some.injEq, Prod.mk.injEq, and_true]; omega)
theorem minus_f {a b : Int} (ha : in64 a) (hb : in64 b) : num_Minus.f a b = some (res (a - b)) := by
  unfold in64 at ha hb
  unfold num_Minus.f res wrap64
  repeat' split
  all_goals first | rfl | (exfalso; omega) | (simp only [Option.some.injEq, Prod.mk.injEq, and_true]; omega)
theorem rplus_f {a b : Int} (ha : in64 a) (hb : in64 b) : registrarref01_Plus.f a b = some (res (a + b)) := by
  unfold in64 at ha hb
  unfold registrarref01_Plus.f res wrap64
  repeat' split
  all_goals first | rfl | (exfalso; omega) | (simp only [Option.some.injEq, Prod.mk.injEq, and_true]; omega)
theorem rminus_f {a b : Int} (ha : in64 a) (hb : in64 b) : registrarref01_Minus.f a b = some (res (a - b)) := by
  unfold in64 at ha hb
  unfold registrarref01_Minus.f res wrap64
  repeat' split
  all_goals first | rfl | (exfalso; omega) | (simp only [Option.some.injEq, Prod.mk.injEq, and_true]; omega)
theorem back_f {a : Int} (ha : in64 a) : num_Back.f a = some (res (-a)) := by
  unfold in64 at ha
  unfold num_Back.f res wrap64
  repeat' split
  all_goals first | rfl | (exfalso; omega) | (simp only [Option.some.injEq, Prod.mk.injEq, and_true]; omega)
theorem rback_f {a : Int} (ha : in64 a) : registrarref01_Back.f a = some (res (-a)) := by
  unfold registrarref01_Back.f
  rw [rminus_f (by unfold in64; omega) ha]
  simp
def size (a : Int) : Int × Int := if a < 0 then res (-a) else (a, 0)
theorem size_f {a : Int} (ha : in64 a) : num_Size.f a = some (size a) := by
  unfold num_Size.f size
  rw [back_f ha]
  split <;> simp
theorem rsize_f {a : Int} (ha : in64 a) : registrarref01_Size.f a = some (size a) := by
  unfold registrarref01_Size.f size
  rw [rback_f ha]
  repeat' split
  all_goals first | (exfalso; omega) | simp
def over (a b : Int) : Int × Int := if b = 0 then (0, 10) else res (Int.tdiv a b)
theorem tdiv_in {a b : Int} (ha : in64 a) (hb : b ≠ 0) (h : ¬ (a = -9223372036854775808 ∧ b = -1)) : in64 (Int.tdiv a b) := by
  unfold in64 at ha ⊢
  have h1 : (Int.tdiv a b).natAbs = a.natAbs / b.natAbs := Int.natAbs_tdiv a b
  have h2 : a.natAbs / b.natAbs ≤ a.natAbs := Nat.div_le_self _ _
  by_cases hb1 : b.natAbs = 1
  · rcases Int.natAbs_eq b with e | e
    · have : b = 1 := by omega
      subst this
      simp
      omega
    · have : b = -1 := by omega
      subst this
      simp
      omega
  · have h3 : a.natAbs / b.natAbs ≤ a.natAbs / 2 := Nat.div_le_div_left (by omega) (by omega)
    omega
theorem res_in {x : Int} (h : in64 x) : res x = (x, 0) := if_pos h
theorem wrap_id {x : Int} (h : in64 x) : wrap64 x = x := wrap_in h.1 h.2
theorem over_f {a b : Int} (ha : in64 a) : num_Over.f a b = some (over a b) := by
  unfold num_Over.f over
  by_cases hb : b = 0
  · rw [if_pos hb, if_pos hb]
  · rw [if_neg hb, if_neg hb]
    by_cases h1 : a = -9223372036854775808
    · rw [if_pos h1]
      by_cases h2 : b = -1
      · subst h1 h2
        rw [if_pos rfl]
        rfl
      · rw [if_neg h2]
        have h := tdiv_in ha hb (fun z => h2 z.2)
        rw [res_in h, wrap_id h]
    · rw [if_neg h1]
      have h := tdiv_in ha hb (fun z => h1 z.1)
      rw [res_in h, wrap_id h]
def rest (a b : Int) : Int × Int := if b = 0 then (0, 10) else if a = -9223372036854775808 ∧ b = -1 then (0, 10) else (Int.tmod a b, 0)
theorem rest_f {a b : Int} : num_Rest.f a b = some (rest a b) := by
  unfold num_Rest.f rest
  repeat' split
  all_goals first | rfl | (exfalso; omega)
theorem mul_bound {x y M : Int} (hy : 0 < y) : x > M / y ↔ x * y > M := by
  constructor
  · intro h
    rcases (show M < x * y ∨ x * y ≤ M by omega) with h1 | h1
    · exact h1
    · have := (Int.le_ediv_iff_mul_le hy).2 h1
      omega
  · intro h
    rcases (show M / y < x ∨ x ≤ M / y by omega) with h1 | h1
    · exact h1
    · have := (Int.le_ediv_iff_mul_le hy).1 h1
      omega
theorem div_in {M y : Int} (h0 : 0 ≤ M) (hM : M ≤ 9223372036854775808) (hy : 2 ≤ y) : 0 ≤ M / y ∧ M / y ≤ 4611686018427387904 := by
  refine ⟨Int.ediv_nonneg h0 (by omega), ?_⟩
  have h1 : M / y * y ≤ M := Int.ediv_mul_le M (by omega)
  have h2 : 0 ≤ M / y := Int.ediv_nonneg h0 (by omega)
  have h3 : M / y * 2 ≤ M / y * y := Int.mul_le_mul_of_nonneg_left hy h2
  omega
theorem div_in1 {M y : Int} (h0 : 0 ≤ M) (hy : 1 ≤ y) : 0 ≤ M / y ∧ M / y ≤ M := ⟨Int.ediv_nonneg h0 (by omega), Int.ediv_le_self y h0⟩
end Go.Proofs.Ytckdcaidhpjjaaa.Num
