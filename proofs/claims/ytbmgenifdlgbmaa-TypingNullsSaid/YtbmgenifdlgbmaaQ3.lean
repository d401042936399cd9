-- Written by a program of this session (wip/prx.py) out of the translation; Lean checks it.
import Derived.Test.YtbmgenifdlgbmaaQ0
import Derived.Test.YtbmgenifdlgbmaaQ1
import Derived.Test.YtbmgenifdlgbmaaQ2
namespace Go.Proofs.Ytbmgenifdlgbmaa.Q
open Go.RowKit Go.Proofs.YtbmgenifdlgbmaaW.PrintWords Go.Proofs.YtbmgenifdlgbmaaW.PrintLast Go.Proofs.YtbmgenifdlgbmaaW.PrintMore
attribute [local go_sem] max2_int min2_int max_two min_two max_three min_three max_four min_four   -- for this text's walks alone
set_option linter.unusedVariables false
set_option linter.unusedSimpArgs false

attribute [local go_sem high] eqA23
/-! ### lex_while_c168: function 167 -/
def lex_while_c168.l0 : Nat → ByteArray → Int → Int → Int → Option (Int)
  | 0, _, _, _, _ => none
  | k + 1, x0, x1, x2, x9 => if (wrap64 (x1 + x9)) < (x0.size : Int) then (if x9 < x2 then (if 0 ≤ (wrap64 (x1 + x9)) then ((lex_one_1.f (bt x0 (wrap64 (x1 + x9)))).bind fun t117 => (if t117 = true then (lex_while_c168.l0 k x0 x1 x2 (wrap64 (x9 + 1))) else (some x9))) else (none)) else (some x9)) else (some x9)
def lex_while_c168.f (k : Nat) (a0 : ByteArray) (a1 : Int) (a2 : Int)  : Option (Int) := lex_while_c168.l0 k a0 a1 a2 0
theorem lex_while_c168.mono_l : ∀ k, (∀ y0 y1 y2 y3, LeO (lex_while_c168.l0 k y0 y1 y2 y3) (lex_while_c168.l0 (k + 1) y0 y1 y2 y3))
  | 0 => fun _ _ _ _ r h => by simp [lex_while_c168.l0] at h
  | k + 1 => by
    have ih0 := lex_while_c168.mono_l k
    · intro y0 y1 y2 y3
      unfold lex_while_c168.l0
      repeat' first
      | (with_reducible exact ih0 _ _ _ _)
      | (with_reducible exact LeO.refl _)
      | (with_reducible exact LeO.none _)
      | (with_reducible refine LeO.ite ?_ ?_)
      | (with_reducible refine LeO.bind ?_ (fun _ => ?_))
      | exact ih0 _ _ _ _
      | exact LeO.none _
      | refine LeO.ite ?_ ?_
      | refine LeO.bind ?_ (fun _ => ?_)
theorem lex_while_c168.mono : ∀ a0 a1 a2 k, LeO (lex_while_c168.f k a0 a1 a2) (lex_while_c168.f (k + 1) a0 a1 a2) := by
  intro a0 a1 a2 k
  have ih0 := lex_while_c168.mono_l k
  unfold lex_while_c168.f
  repeat' first
      | (with_reducible exact ih0 _ _ _ _)
      | (with_reducible exact LeO.refl _)
      | (with_reducible exact LeO.none _)
      | (with_reducible refine LeO.ite ?_ ?_)
      | (with_reducible refine LeO.bind ?_ (fun _ => ?_))
      | exact ih0 _ _ _ _
      | exact LeO.none _
      | refine LeO.ite ?_ ?_
      | refine LeO.bind ?_ (fun _ => ?_)
set_option maxHeartbeats 8000000 in
set_option maxRecDepth 100000 in
theorem lex_while_c168.calls (k : Nat) (a0 : ByteArray) (a1 : Int) (a2 : Int)  (r : Int) (w : World) (h : lex_while_c168.f k a0 a1 a2 = some r) :
    Calls Try.prog 167 #[.string a0, .int .i64 a1, .int .i64 a2, .func (.func 168) #[] #[]] w fun e w' => e = .returned (.int .i64 r) ∧ Drawn0 w w' := by
  have H : (lex_while_c168.l0 k a0 a1 a2 0) = some r := h
  clear h
  have H' := Cs.am H
  clear H
  go_enter Try.func167, Try.ntmps167
  go_wp2
  go_loopg [9] k (fun kq v9 w' => ∃ (x9_1 : Int), v9 = .int .i64 x9_1 ∧ Aside0 (lex_while_c168.l0 kq a0 a1 a2 x9_1 = some r) ∧ Aside0 (kq ≤ k) ∧ Drawn0 w w')
  case atStart => exact ⟨(0), (by first | rfl | (simp; done) | (simp [*]; done)), H', ⟨Nat.le_refl _⟩, by repeat (first | exact Drawn0.refl _ | apply Drawn0.step)⟩
  case round =>
    clear H'
    try clear c1
    try clear p2
    obtain ⟨x9_1, rfl, HA, HK1, ⟨m1, rfl⟩⟩ := hrel
    cases gk with
    | zero => exact absurd HA.out (by simp [lex_while_c168.l0])
    | succ k1 =>
      have H := HA.out
      clear HA
      simp only [lex_while_c168.l0] at H
      by_cases c5 : (wrap64 (a1 + x9_1)) < (a0.size : Int)
      · rw [if_pos c5] at H
        have c5b0 : decide ((wrap64 (a1 + x9_1)) < (a0.size : Int)) = true := decide_eq_true c5
        clear c5
        by_cases c6 : x9_1 < a2
        · rw [if_pos c6] at H
          have c6b0 : decide (x9_1 < a2) = true := decide_eq_true c6
          clear c6
          obtain ⟨ji7, hji7⟩ : ∃ j_ : Int, (wrap64 (a1 + x9_1)) = j_ := ⟨_, rfl⟩
          replace H : (if 0 ≤ (ji7) then ((lex_one_1.f (bt a0 (ji7))).bind fun t117 => (if t117 = true then (lex_while_c168.l0 k1 a0 a1 a2 (wrap64 (x9_1 + 1))) else (some x9_1))) else (none)) = some r := by first | (rw [hji7] at H; exact H) | (simp only [hji7] at H ⊢; exact H)
          (try rw [hji7] at c5b0)
          have hji7w : (IntKind.i64.wrap (a1 + x9_1)) = ji7 := (i64_w _).trans hji7
          by_cases c8 : 0 ≤ (ji7)
          · rw [if_pos c8] at H
            have c8b0 : decide (0 ≤ (ji7)) = true := decide_eq_true c8
            clear c8
            replace H := Option.bind_eq_some_iff.mp H
            obtain ⟨t117, A100, H⟩ := H
            replace H : (if t117 = true then (lex_while_c168.l0 k1 a0 a1 a2 (wrap64 (x9_1 + 1))) else (some x9_1)) = some r := H
            have A10 := Cs.am A100
            clear A100
            by_cases c11 : t117 = true
            · subst c11
              have H1 : (lex_while_c168.l0 k1 a0 a1 a2 (wrap64 (x9_1 + 1))) = some r := by rw [if_pos rfl] at H; exact H
              clear H
              have H := H1
              clear H1
              have H' := Cs.am H
              clear H
              have p9 : 0 ≤ ((ji7) : Int) := of_decide_eq_true (by first | (with_reducible assumption) | assumption)
              have q9 : (ji7) < (a0.size : Int) := of_decide_eq_true (by first | (with_reducible assumption) | assumption)
              have hx9 := bt_at a0 (ji7)
              replace p9 := eq_true p9
              replace q9 := eq_true q9
              go_wp2_with (first | (go_at_call 168; (with_reducible refine (lex_one_1.calls (bt a0 (ji7)) true _ A10.out).mono ?_); rintro e w' ⟨rfl, ⟨nd, rfl⟩⟩))
              go_roundg k1
              case measure => have := HK1.out; omega
              case rel => exact ⟨(wrap64 (x9_1 + 1)), (by first | rfl | (simp; done) | (simp [*]; done)), H', ⟨by have := HK1.out; omega⟩, by repeat (first | exact Drawn0.refl _ | apply Drawn0.step)⟩
            · replace c11 := Bool.eq_false_iff.mpr c11
              subst c11
              have H1 : (some x9_1) = some r := by rw [if_neg (show ¬ (false = true) by decide)] at H; exact H
              clear H
              have H := H1
              clear H1
              obtain rfl := Option.some.inj H
              have p9 : 0 ≤ ((ji7) : Int) := of_decide_eq_true (by first | (with_reducible assumption) | assumption)
              have q9 : (ji7) < (a0.size : Int) := of_decide_eq_true (by first | (with_reducible assumption) | assumption)
              have hx9 := bt_at a0 (ji7)
              replace p9 := eq_true p9
              replace q9 := eq_true q9
              go_wp2_with (first | (go_at_call 168; (with_reducible refine (lex_one_1.calls (bt a0 (ji7)) false _ A10.out).mono ?_); rintro e w' ⟨rfl, ⟨nd, rfl⟩⟩))
              go_ret
              exact ⟨by first | rfl | (simp; done) | (simp only [← hji7] <;> (first | rfl | simp)) | (simp [*]; done), by repeat (first | exact Drawn0.refl _ | apply Drawn0.step)⟩
          · rw [if_neg c8] at H
            exact absurd H (by simp)
        · rw [if_neg c6] at H
          have c6b0 : decide (x9_1 < a2) = false := decide_eq_false c6
          clear c6
          obtain rfl := Option.some.inj H
          go_wp2
          go_ret
          exact ⟨by first | rfl | (simp; done) | (simp [*]; done), by repeat (first | exact Drawn0.refl _ | apply Drawn0.step)⟩
      · rw [if_neg c5] at H
        have c5b0 : decide ((wrap64 (a1 + x9_1)) < (a0.size : Int)) = false := decide_eq_false c5
        clear c5
        obtain rfl := Option.some.inj H
        go_wp2
        go_ret
        exact ⟨by first | rfl | (simp; done) | (simp [*]; done), by repeat (first | exact Drawn0.refl _ | apply Drawn0.step)⟩

/-! ### lex_while_c172: function 167 -/
def lex_while_c172.l0 : Nat → ByteArray → Int → Int → Int → Option (Int)
  | 0, _, _, _, _ => none
  | k + 1, x0, x1, x2, x9 => if (wrap64 (x1 + x9)) < (x0.size : Int) then (if x9 < x2 then (if 0 ≤ (wrap64 (x1 + x9)) then ((lex_one_2.f (bt x0 (wrap64 (x1 + x9)))).bind fun t117 => (if t117 = true then (lex_while_c172.l0 k x0 x1 x2 (wrap64 (x9 + 1))) else (some x9))) else (none)) else (some x9)) else (some x9)
def lex_while_c172.f (k : Nat) (a0 : ByteArray) (a1 : Int) (a2 : Int)  : Option (Int) := lex_while_c172.l0 k a0 a1 a2 0
theorem lex_while_c172.mono_l : ∀ k, (∀ y0 y1 y2 y3, LeO (lex_while_c172.l0 k y0 y1 y2 y3) (lex_while_c172.l0 (k + 1) y0 y1 y2 y3))
  | 0 => fun _ _ _ _ r h => by simp [lex_while_c172.l0] at h
  | k + 1 => by
    have ih0 := lex_while_c172.mono_l k
    · intro y0 y1 y2 y3
      unfold lex_while_c172.l0
      repeat' first
      | (with_reducible exact ih0 _ _ _ _)
      | (with_reducible exact LeO.refl _)
      | (with_reducible exact LeO.none _)
      | (with_reducible refine LeO.ite ?_ ?_)
      | (with_reducible refine LeO.bind ?_ (fun _ => ?_))
      | exact ih0 _ _ _ _
      | exact LeO.none _
      | refine LeO.ite ?_ ?_
      | refine LeO.bind ?_ (fun _ => ?_)
theorem lex_while_c172.mono : ∀ a0 a1 a2 k, LeO (lex_while_c172.f k a0 a1 a2) (lex_while_c172.f (k + 1) a0 a1 a2) := by
  intro a0 a1 a2 k
  have ih0 := lex_while_c172.mono_l k
  unfold lex_while_c172.f
  repeat' first
      | (with_reducible exact ih0 _ _ _ _)
      | (with_reducible exact LeO.refl _)
      | (with_reducible exact LeO.none _)
      | (with_reducible refine LeO.ite ?_ ?_)
      | (with_reducible refine LeO.bind ?_ (fun _ => ?_))
      | exact ih0 _ _ _ _
      | exact LeO.none _
      | refine LeO.ite ?_ ?_
      | refine LeO.bind ?_ (fun _ => ?_)
set_option maxHeartbeats 8000000 in
set_option maxRecDepth 100000 in
theorem lex_while_c172.calls (k : Nat) (a0 : ByteArray) (a1 : Int) (a2 : Int)  (r : Int) (w : World) (h : lex_while_c172.f k a0 a1 a2 = some r) :
    Calls Try.prog 167 #[.string a0, .int .i64 a1, .int .i64 a2, .func (.func 172) #[] #[]] w fun e w' => e = .returned (.int .i64 r) ∧ Drawn0 w w' := by
  have H : (lex_while_c172.l0 k a0 a1 a2 0) = some r := h
  clear h
  have H' := Cs.am H
  clear H
  go_enter Try.func167, Try.ntmps167
  go_wp2
  go_loopg [9] k (fun kq v9 w' => ∃ (x9_1 : Int), v9 = .int .i64 x9_1 ∧ Aside0 (lex_while_c172.l0 kq a0 a1 a2 x9_1 = some r) ∧ Aside0 (kq ≤ k) ∧ Drawn0 w w')
  case atStart => exact ⟨(0), (by first | rfl | (simp; done) | (simp [*]; done)), H', ⟨Nat.le_refl _⟩, by repeat (first | exact Drawn0.refl _ | apply Drawn0.step)⟩
  case round =>
    clear H'
    try clear c1
    try clear p2
    obtain ⟨x9_1, rfl, HA, HK1, ⟨m1, rfl⟩⟩ := hrel
    cases gk with
    | zero => exact absurd HA.out (by simp [lex_while_c172.l0])
    | succ k1 =>
      have H := HA.out
      clear HA
      simp only [lex_while_c172.l0] at H
      by_cases c5 : (wrap64 (a1 + x9_1)) < (a0.size : Int)
      · rw [if_pos c5] at H
        have c5b0 : decide ((wrap64 (a1 + x9_1)) < (a0.size : Int)) = true := decide_eq_true c5
        clear c5
        by_cases c6 : x9_1 < a2
        · rw [if_pos c6] at H
          have c6b0 : decide (x9_1 < a2) = true := decide_eq_true c6
          clear c6
          obtain ⟨ji7, hji7⟩ : ∃ j_ : Int, (wrap64 (a1 + x9_1)) = j_ := ⟨_, rfl⟩
          replace H : (if 0 ≤ (ji7) then ((lex_one_2.f (bt a0 (ji7))).bind fun t117 => (if t117 = true then (lex_while_c172.l0 k1 a0 a1 a2 (wrap64 (x9_1 + 1))) else (some x9_1))) else (none)) = some r := by first | (rw [hji7] at H; exact H) | (simp only [hji7] at H ⊢; exact H)
          (try rw [hji7] at c5b0)
          have hji7w : (IntKind.i64.wrap (a1 + x9_1)) = ji7 := (i64_w _).trans hji7
          by_cases c8 : 0 ≤ (ji7)
          · rw [if_pos c8] at H
            have c8b0 : decide (0 ≤ (ji7)) = true := decide_eq_true c8
            clear c8
            replace H := Option.bind_eq_some_iff.mp H
            obtain ⟨t117, A100, H⟩ := H
            replace H : (if t117 = true then (lex_while_c172.l0 k1 a0 a1 a2 (wrap64 (x9_1 + 1))) else (some x9_1)) = some r := H
            have A10 := Cs.am A100
            clear A100
            by_cases c11 : t117 = true
            · subst c11
              have H1 : (lex_while_c172.l0 k1 a0 a1 a2 (wrap64 (x9_1 + 1))) = some r := by rw [if_pos rfl] at H; exact H
              clear H
              have H := H1
              clear H1
              have H' := Cs.am H
              clear H
              have p9 : 0 ≤ ((ji7) : Int) := of_decide_eq_true (by first | (with_reducible assumption) | assumption)
              have q9 : (ji7) < (a0.size : Int) := of_decide_eq_true (by first | (with_reducible assumption) | assumption)
              have hx9 := bt_at a0 (ji7)
              replace p9 := eq_true p9
              replace q9 := eq_true q9
              go_wp2_with (first | (go_at_call 172; (with_reducible refine (lex_one_2.calls (bt a0 (ji7)) true _ A10.out).mono ?_); rintro e w' ⟨rfl, ⟨nd, rfl⟩⟩))
              go_roundg k1
              case measure => have := HK1.out; omega
              case rel => exact ⟨(wrap64 (x9_1 + 1)), (by first | rfl | (simp; done) | (simp [*]; done)), H', ⟨by have := HK1.out; omega⟩, by repeat (first | exact Drawn0.refl _ | apply Drawn0.step)⟩
            · replace c11 := Bool.eq_false_iff.mpr c11
              subst c11
              have H1 : (some x9_1) = some r := by rw [if_neg (show ¬ (false = true) by decide)] at H; exact H
              clear H
              have H := H1
              clear H1
              obtain rfl := Option.some.inj H
              have p9 : 0 ≤ ((ji7) : Int) := of_decide_eq_true (by first | (with_reducible assumption) | assumption)
              have q9 : (ji7) < (a0.size : Int) := of_decide_eq_true (by first | (with_reducible assumption) | assumption)
              have hx9 := bt_at a0 (ji7)
              replace p9 := eq_true p9
              replace q9 := eq_true q9
              go_wp2_with (first | (go_at_call 172; (with_reducible refine (lex_one_2.calls (bt a0 (ji7)) false _ A10.out).mono ?_); rintro e w' ⟨rfl, ⟨nd, rfl⟩⟩))
              go_ret
              exact ⟨by first | rfl | (simp; done) | (simp only [← hji7] <;> (first | rfl | simp)) | (simp [*]; done), by repeat (first | exact Drawn0.refl _ | apply Drawn0.step)⟩
          · rw [if_neg c8] at H
            exact absurd H (by simp)
        · rw [if_neg c6] at H
          have c6b0 : decide (x9_1 < a2) = false := decide_eq_false c6
          clear c6
          obtain rfl := Option.some.inj H
          go_wp2
          go_ret
          exact ⟨by first | rfl | (simp; done) | (simp [*]; done), by repeat (first | exact Drawn0.refl _ | apply Drawn0.step)⟩
      · rw [if_neg c5] at H
        have c5b0 : decide ((wrap64 (a1 + x9_1)) < (a0.size : Int)) = false := decide_eq_false c5
        clear c5
        obtain rfl := Option.some.inj H
        go_wp2
        go_ret
        exact ⟨by first | rfl | (simp; done) | (simp [*]; done), by repeat (first | exact Drawn0.refl _ | apply Drawn0.step)⟩

/-! ### lex_while_c169: function 167 -/
def lex_while_c169.l0 : Nat → ByteArray → Int → Int → Int → Option (Int)
  | 0, _, _, _, _ => none
  | k + 1, x0, x1, x2, x9 => if (wrap64 (x1 + x9)) < (x0.size : Int) then (if x9 < x2 then (if 0 ≤ (wrap64 (x1 + x9)) then ((lex_digit.f (bt x0 (wrap64 (x1 + x9)))).bind fun t117 => (if t117 = true then (lex_while_c169.l0 k x0 x1 x2 (wrap64 (x9 + 1))) else (some x9))) else (none)) else (some x9)) else (some x9)
def lex_while_c169.f (k : Nat) (a0 : ByteArray) (a1 : Int) (a2 : Int)  : Option (Int) := lex_while_c169.l0 k a0 a1 a2 0
theorem lex_while_c169.mono_l : ∀ k, (∀ y0 y1 y2 y3, LeO (lex_while_c169.l0 k y0 y1 y2 y3) (lex_while_c169.l0 (k + 1) y0 y1 y2 y3))
  | 0 => fun _ _ _ _ r h => by simp [lex_while_c169.l0] at h
  | k + 1 => by
    have ih0 := lex_while_c169.mono_l k
    · intro y0 y1 y2 y3
      unfold lex_while_c169.l0
      repeat' first
      | (with_reducible exact ih0 _ _ _ _)
      | (with_reducible exact LeO.refl _)
      | (with_reducible exact LeO.none _)
      | (with_reducible refine LeO.ite ?_ ?_)
      | (with_reducible refine LeO.bind ?_ (fun _ => ?_))
      | exact ih0 _ _ _ _
      | exact LeO.none _
      | refine LeO.ite ?_ ?_
      | refine LeO.bind ?_ (fun _ => ?_)
theorem lex_while_c169.mono : ∀ a0 a1 a2 k, LeO (lex_while_c169.f k a0 a1 a2) (lex_while_c169.f (k + 1) a0 a1 a2) := by
  intro a0 a1 a2 k
  have ih0 := lex_while_c169.mono_l k
  unfold lex_while_c169.f
  repeat' first
      | (with_reducible exact ih0 _ _ _ _)
      | (with_reducible exact LeO.refl _)
      | (with_reducible exact LeO.none _)
      | (with_reducible refine LeO.ite ?_ ?_)
      | (with_reducible refine LeO.bind ?_ (fun _ => ?_))
      | exact ih0 _ _ _ _
      | exact LeO.none _
      | refine LeO.ite ?_ ?_
      | refine LeO.bind ?_ (fun _ => ?_)
set_option maxHeartbeats 8000000 in
set_option maxRecDepth 100000 in
theorem lex_while_c169.calls (k : Nat) (a0 : ByteArray) (a1 : Int) (a2 : Int)  (r : Int) (w : World) (h : lex_while_c169.f k a0 a1 a2 = some r) :
    Calls Try.prog 167 #[.string a0, .int .i64 a1, .int .i64 a2, .func (.func 169) #[] #[]] w fun e w' => e = .returned (.int .i64 r) ∧ Drawn0 w w' := by
  have H : (lex_while_c169.l0 k a0 a1 a2 0) = some r := h
  clear h
  have H' := Cs.am H
  clear H
  go_enter Try.func167, Try.ntmps167
  go_wp2
  go_loopg [9] k (fun kq v9 w' => ∃ (x9_1 : Int), v9 = .int .i64 x9_1 ∧ Aside0 (lex_while_c169.l0 kq a0 a1 a2 x9_1 = some r) ∧ Aside0 (kq ≤ k) ∧ Drawn0 w w')
  case atStart => exact ⟨(0), (by first | rfl | (simp; done) | (simp [*]; done)), H', ⟨Nat.le_refl _⟩, by repeat (first | exact Drawn0.refl _ | apply Drawn0.step)⟩
  case round =>
    clear H'
    try clear c1
    try clear p2
    obtain ⟨x9_1, rfl, HA, HK1, ⟨m1, rfl⟩⟩ := hrel
    cases gk with
    | zero => exact absurd HA.out (by simp [lex_while_c169.l0])
    | succ k1 =>
      have H := HA.out
      clear HA
      simp only [lex_while_c169.l0] at H
      by_cases c5 : (wrap64 (a1 + x9_1)) < (a0.size : Int)
      · rw [if_pos c5] at H
        have c5b0 : decide ((wrap64 (a1 + x9_1)) < (a0.size : Int)) = true := decide_eq_true c5
        clear c5
        by_cases c6 : x9_1 < a2
        · rw [if_pos c6] at H
          have c6b0 : decide (x9_1 < a2) = true := decide_eq_true c6
          clear c6
          obtain ⟨ji7, hji7⟩ : ∃ j_ : Int, (wrap64 (a1 + x9_1)) = j_ := ⟨_, rfl⟩
          replace H : (if 0 ≤ (ji7) then ((lex_digit.f (bt a0 (ji7))).bind fun t117 => (if t117 = true then (lex_while_c169.l0 k1 a0 a1 a2 (wrap64 (x9_1 + 1))) else (some x9_1))) else (none)) = some r := by first | (rw [hji7] at H; exact H) | (simp only [hji7] at H ⊢; exact H)
          (try rw [hji7] at c5b0)
          have hji7w : (IntKind.i64.wrap (a1 + x9_1)) = ji7 := (i64_w _).trans hji7
          by_cases c8 : 0 ≤ (ji7)
          · rw [if_pos c8] at H
            have c8b0 : decide (0 ≤ (ji7)) = true := decide_eq_true c8
            clear c8
            replace H := Option.bind_eq_some_iff.mp H
            obtain ⟨t117, A100, H⟩ := H
            replace H : (if t117 = true then (lex_while_c169.l0 k1 a0 a1 a2 (wrap64 (x9_1 + 1))) else (some x9_1)) = some r := H
            have A10 := Cs.am A100
            clear A100
            by_cases c11 : t117 = true
            · subst c11
              have H1 : (lex_while_c169.l0 k1 a0 a1 a2 (wrap64 (x9_1 + 1))) = some r := by rw [if_pos rfl] at H; exact H
              clear H
              have H := H1
              clear H1
              have H' := Cs.am H
              clear H
              have p9 : 0 ≤ ((ji7) : Int) := of_decide_eq_true (by first | (with_reducible assumption) | assumption)
              have q9 : (ji7) < (a0.size : Int) := of_decide_eq_true (by first | (with_reducible assumption) | assumption)
              have hx9 := bt_at a0 (ji7)
              replace p9 := eq_true p9
              replace q9 := eq_true q9
              go_wp2_with (first | (go_at_call 169; (with_reducible refine (lex_digit.calls (bt a0 (ji7)) true _ A10.out).mono ?_); rintro e w' ⟨rfl, ⟨nd, rfl⟩⟩))
              go_roundg k1
              case measure => have := HK1.out; omega
              case rel => exact ⟨(wrap64 (x9_1 + 1)), (by first | rfl | (simp; done) | (simp [*]; done)), H', ⟨by have := HK1.out; omega⟩, by repeat (first | exact Drawn0.refl _ | apply Drawn0.step)⟩
            · replace c11 := Bool.eq_false_iff.mpr c11
              subst c11
              have H1 : (some x9_1) = some r := by rw [if_neg (show ¬ (false = true) by decide)] at H; exact H
              clear H
              have H := H1
              clear H1
              obtain rfl := Option.some.inj H
              have p9 : 0 ≤ ((ji7) : Int) := of_decide_eq_true (by first | (with_reducible assumption) | assumption)
              have q9 : (ji7) < (a0.size : Int) := of_decide_eq_true (by first | (with_reducible assumption) | assumption)
              have hx9 := bt_at a0 (ji7)
              replace p9 := eq_true p9
              replace q9 := eq_true q9
              go_wp2_with (first | (go_at_call 169; (with_reducible refine (lex_digit.calls (bt a0 (ji7)) false _ A10.out).mono ?_); rintro e w' ⟨rfl, ⟨nd, rfl⟩⟩))
              go_ret
              exact ⟨by first | rfl | (simp; done) | (simp only [← hji7] <;> (first | rfl | simp)) | (simp [*]; done), by repeat (first | exact Drawn0.refl _ | apply Drawn0.step)⟩
          · rw [if_neg c8] at H
            exact absurd H (by simp)
        · rw [if_neg c6] at H
          have c6b0 : decide (x9_1 < a2) = false := decide_eq_false c6
          clear c6
          obtain rfl := Option.some.inj H
          go_wp2
          go_ret
          exact ⟨by first | rfl | (simp; done) | (simp [*]; done), by repeat (first | exact Drawn0.refl _ | apply Drawn0.step)⟩
      · rw [if_neg c5] at H
        have c5b0 : decide ((wrap64 (a1 + x9_1)) < (a0.size : Int)) = false := decide_eq_false c5
        clear c5
        obtain rfl := Option.some.inj H
        go_wp2
        go_ret
        exact ⟨by first | rfl | (simp; done) | (simp [*]; done), by repeat (first | exact Drawn0.refl _ | apply Drawn0.step)⟩

/-! ### lex_one: function 158 -/
def lex_one.j0 : Nat → ByteArray → Bool → Option (Int × Int)
  | 0, _, _ => none
  | k + 1, x0, x57 => if x57 = true then (some (5, 0)) else ((lex_alone.f x0 2).bind fun t129 => (some (5, t129)))
def lex_one.f (k : Nat) (a0 : ByteArray) : Option (Int × Int) := if 0 < (a0.size : Int) then ((lex_small.f (bt a0 0)).bind fun t118 => (if t118 = true then ((lex_while_c168.f k a0 0 12).bind fun t119 => ((lex_alone.f a0 t119).bind fun t120 => (some (1, t120)))) else ((lex_capital.f (bt a0 0)).bind fun t121 => (if t121 = true then ((lex_while_c172.f k a0 0 16).bind fun t122 => ((lex_alone.f a0 t122).bind fun t123 => (some (2, t123)))) else (if (bt a0 0) = 48 then ((lex_alone.f a0 1).bind fun t124 => (some (3, t124))) else ((lex_digit.f (bt a0 0)).bind fun t125 => (if t125 = true then ((lex_while_c169.f k a0 0 19).bind fun t126 => ((lex_alone.f a0 t126).bind fun t127 => (some (3, t127)))) else (if (bt a0 0) = 39 then ((lex_quoted.f k a0).bind fun t128 => (some (4, t128))) else (if (bt a0 0) = 36 then (if (a0.size : Int) < 2 then (lex_one.j0 k a0 true) else (if 1 < (a0.size : Int) then (if (bt a0 1) < 49 then (lex_one.j0 k a0 true) else (lex_one.j0 k a0 (decide ((bt a0 1) > 54)))) else (none))) else ((lex_sign.f a0).bind fun t130 => (some (6, t130)))))))))))) else (none)
theorem lex_one.mono_l : ∀ k, (∀ y0 y1, LeO (lex_one.j0 k y0 y1) (lex_one.j0 (k + 1) y0 y1))
  | 0 => fun _ _ r h => by simp [lex_one.j0] at h
  | k + 1 => by
    have ih0 := lex_one.mono_l k
    · intro y0 y1
      unfold lex_one.j0
      repeat' first
      | (with_reducible exact ih0 _ _)
      | (with_reducible exact lex_quoted.mono _ _)
      | (with_reducible exact lex_while_c168.mono _ _ _ _)
      | (with_reducible exact lex_while_c169.mono _ _ _ _)
      | (with_reducible exact lex_while_c172.mono _ _ _ _)
      | (with_reducible exact LeO.refl _)
      | (with_reducible exact LeO.none _)
      | (with_reducible refine LeO.ite ?_ ?_)
      | (with_reducible refine LeO.bind ?_ (fun _ => ?_))
      | exact ih0 _ _
      | exact lex_quoted.mono _ _
      | exact lex_while_c168.mono _ _ _ _
      | exact lex_while_c169.mono _ _ _ _
      | exact lex_while_c172.mono _ _ _ _
      | exact LeO.none _
      | refine LeO.ite ?_ ?_
      | refine LeO.bind ?_ (fun _ => ?_)
theorem lex_one.mono : ∀ a0 k, LeO (lex_one.f k a0) (lex_one.f (k + 1) a0) := by
  intro a0 k
  have ih0 := lex_one.mono_l k
  unfold lex_one.f
  repeat' first
      | (with_reducible exact ih0 _ _)
      | (with_reducible exact lex_quoted.mono _ _)
      | (with_reducible exact lex_while_c168.mono _ _ _ _)
      | (with_reducible exact lex_while_c169.mono _ _ _ _)
      | (with_reducible exact lex_while_c172.mono _ _ _ _)
      | (with_reducible exact LeO.refl _)
      | (with_reducible exact LeO.none _)
      | (with_reducible refine LeO.ite ?_ ?_)
      | (with_reducible refine LeO.bind ?_ (fun _ => ?_))
      | exact ih0 _ _
      | exact lex_quoted.mono _ _
      | exact lex_while_c168.mono _ _ _ _
      | exact lex_while_c169.mono _ _ _ _
      | exact lex_while_c172.mono _ _ _ _
      | exact LeO.none _
      | refine LeO.ite ?_ ?_
      | refine LeO.bind ?_ (fun _ => ?_)
set_option maxHeartbeats 8000000 in
set_option maxRecDepth 100000 in
theorem lex_one.calls (k : Nat) (a0 : ByteArray) (r1 : Int) (r2 : Int) (w : World) (h : lex_one.f k a0 = some (r1, r2)) :
    Calls Try.prog 158 #[.string a0] w fun e w' => e = .returned (.tuple #[.int .i64 r1, .int .i64 r2]) ∧ Below w.heap.size w w' := by
  have HB := Cs.am (Below.refl w.heap.size w)
  have H : (if 0 < (a0.size : Int) then ((lex_small.f (bt a0 0)).bind fun t118 => (if t118 = true then ((lex_while_c168.f k a0 0 12).bind fun t119 => ((lex_alone.f a0 t119).bind fun t120 => (some (1, t120)))) else ((lex_capital.f (bt a0 0)).bind fun t121 => (if t121 = true then ((lex_while_c172.f k a0 0 16).bind fun t122 => ((lex_alone.f a0 t122).bind fun t123 => (some (2, t123)))) else (if (bt a0 0) = 48 then ((lex_alone.f a0 1).bind fun t124 => (some (3, t124))) else ((lex_digit.f (bt a0 0)).bind fun t125 => (if t125 = true then ((lex_while_c169.f k a0 0 19).bind fun t126 => ((lex_alone.f a0 t126).bind fun t127 => (some (3, t127)))) else (if (bt a0 0) = 39 then ((lex_quoted.f k a0).bind fun t128 => (some (4, t128))) else (if (bt a0 0) = 36 then (if (a0.size : Int) < 2 then (lex_one.j0 k a0 true) else (if 1 < (a0.size : Int) then (if (bt a0 1) < 49 then (lex_one.j0 k a0 true) else (lex_one.j0 k a0 (decide ((bt a0 1) > 54)))) else (none))) else ((lex_sign.f a0).bind fun t130 => (some (6, t130)))))))))))) else (none)) = some (r1, r2) := h
  clear h
  by_cases c2 : 0 < (a0.size : Int)
  · rw [if_pos c2] at H
    have c2b0 : decide (0 < (a0.size : Int)) = true := decide_eq_true c2
    have c2b1 : decide (0 < a0.size) = true := decide_eq_true (by omega)
    clear c2
    replace H := Option.bind_eq_some_iff.mp H
    obtain ⟨t118, A40, H⟩ := H
    replace H : (if t118 = true then ((lex_while_c168.f k a0 0 12).bind fun t119 => ((lex_alone.f a0 t119).bind fun t120 => (some (1, t120)))) else ((lex_capital.f (bt a0 0)).bind fun t121 => (if t121 = true then ((lex_while_c172.f k a0 0 16).bind fun t122 => ((lex_alone.f a0 t122).bind fun t123 => (some (2, t123)))) else (if (bt a0 0) = 48 then ((lex_alone.f a0 1).bind fun t124 => (some (3, t124))) else ((lex_digit.f (bt a0 0)).bind fun t125 => (if t125 = true then ((lex_while_c169.f k a0 0 19).bind fun t126 => ((lex_alone.f a0 t126).bind fun t127 => (some (3, t127)))) else (if (bt a0 0) = 39 then ((lex_quoted.f k a0).bind fun t128 => (some (4, t128))) else (if (bt a0 0) = 36 then (if (a0.size : Int) < 2 then (lex_one.j0 k a0 true) else (if 1 < (a0.size : Int) then (if (bt a0 1) < 49 then (lex_one.j0 k a0 true) else (lex_one.j0 k a0 (decide ((bt a0 1) > 54)))) else (none))) else ((lex_sign.f a0).bind fun t130 => (some (6, t130))))))))))) = some (r1, r2) := H
    have A4 := Cs.am A40
    clear A40
    by_cases c5 : t118 = true
    · subst c5
      have H1 : ((lex_while_c168.f k a0 0 12).bind fun t119 => ((lex_alone.f a0 t119).bind fun t120 => (some (1, t120)))) = some (r1, r2) := by rw [if_pos rfl] at H; exact H
      clear H
      have H := H1
      clear H1
      replace H := Option.bind_eq_some_iff.mp H
      obtain ⟨t119, A60, H⟩ := H
      replace H : ((lex_alone.f a0 t119).bind fun t120 => (some (1, t120))) = some (r1, r2) := H
      have A6 := Cs.am A60
      clear A60
      replace H := Option.bind_eq_some_iff.mp H
      obtain ⟨t120, A70, H⟩ := H
      replace H : (some (1, t120)) = some (r1, r2) := H
      have A7 := Cs.am A70
      clear A70
      simp only [Option.some.injEq, Prod.mk.injEq] at H
      obtain ⟨rfl, rfl⟩ := H
      have p3 : 0 ≤ (0 : Int) := (by omega)
      have q3 : 0 < a0.size := (by have : (0 : Int) < (a0.size : Int) := of_decide_eq_true (by first | (with_reducible assumption) | assumption); omega)
      have hx3 : ∀ h : 0 < a0.size, ((a0[0]'h).toNat : Int) = bt a0 0 := bt_at a0 0
      clear p3
      have qi3 : (0 < (a0.size : Int)) = True := eq_true (of_decide_eq_true (by first | (with_reducible assumption) | assumption))
      replace q3 := eq_true q3
      go_enter Try.func158, Try.ntmps158
      go_wp2_with (first | ((with_reducible refine gate_callee (f := 166) rfl ?_); refine goesL_ (some 11) rfl rfl Try.func166 (by kernel_rfl) rfl #[.int .u8 (bt a0 0)] rfl (by (try simp only [List.map_toArray, List.map_cons, List.map_nil]); first | done | rfl | (simp only [List.length_drop, List.length_take]; rfl)) ?_; (with_reducible refine (lex_small.calls (bt a0 0) true _ A4.out).mono ?_); rintro e w' ⟨rfl, ⟨nd, rfl⟩⟩; refine ⟨_, rfl, ?_⟩) | ((with_reducible refine gate_callee (f := 167) rfl ?_); refine goesL_ (some 13) rfl rfl Try.func167 (by kernel_rfl) rfl #[.string a0, .int .i64 0, .int .i64 12, .func (.func 168) #[] #[]] rfl (by (try simp only [List.map_toArray, List.map_cons, List.map_nil]); first | done | rfl | (simp only [List.length_drop, List.length_take]; rfl)) ?_; (with_reducible refine (lex_while_c168.calls k a0 0 12  t119 _ A6.out).mono ?_); rintro e w' ⟨rfl, ⟨nd, rfl⟩⟩; refine ⟨_, rfl, ?_⟩) | ((with_reducible refine gate_callee (f := 170) rfl ?_); refine goesL_ (some 16) rfl rfl Try.func170 (by kernel_rfl) rfl #[.string a0, .int .i64 t119] rfl (by (try simp only [List.map_toArray, List.map_cons, List.map_nil]); first | done | rfl | (simp only [List.length_drop, List.length_take]; rfl)) ?_; (with_reducible refine (lex_alone.calls a0 t119 t120 _ A7.out).mono ?_); rintro e w' ⟨rfl, ⟨nd, rfl⟩⟩; refine ⟨_, rfl, ?_⟩))
      go_ret2
      exact ⟨by first | rfl | (simp [errW_none, errW_some] <;> rfl) | (simp [*, errW_none, errW_some] <;> rfl), by repeat (first | (with_reducible first | exact HB.out | apply Cs.ba | apply Cs.bn | apply Cs.bd) | exact HB.out)⟩
    · replace c5 := Bool.eq_false_iff.mpr c5
      subst c5
      have H1 : ((lex_capital.f (bt a0 0)).bind fun t121 => (if t121 = true then ((lex_while_c172.f k a0 0 16).bind fun t122 => ((lex_alone.f a0 t122).bind fun t123 => (some (2, t123)))) else (if (bt a0 0) = 48 then ((lex_alone.f a0 1).bind fun t124 => (some (3, t124))) else ((lex_digit.f (bt a0 0)).bind fun t125 => (if t125 = true then ((lex_while_c169.f k a0 0 19).bind fun t126 => ((lex_alone.f a0 t126).bind fun t127 => (some (3, t127)))) else (if (bt a0 0) = 39 then ((lex_quoted.f k a0).bind fun t128 => (some (4, t128))) else (if (bt a0 0) = 36 then (if (a0.size : Int) < 2 then (lex_one.j0 k a0 true) else (if 1 < (a0.size : Int) then (if (bt a0 1) < 49 then (lex_one.j0 k a0 true) else (lex_one.j0 k a0 (decide ((bt a0 1) > 54)))) else (none))) else ((lex_sign.f a0).bind fun t130 => (some (6, t130)))))))))) = some (r1, r2) := by rw [if_neg (show ¬ (false = true) by decide)] at H; exact H
      clear H
      have H := H1
      clear H1
      replace H := Option.bind_eq_some_iff.mp H
      obtain ⟨t121, A80, H⟩ := H
      replace H : (if t121 = true then ((lex_while_c172.f k a0 0 16).bind fun t122 => ((lex_alone.f a0 t122).bind fun t123 => (some (2, t123)))) else (if (bt a0 0) = 48 then ((lex_alone.f a0 1).bind fun t124 => (some (3, t124))) else ((lex_digit.f (bt a0 0)).bind fun t125 => (if t125 = true then ((lex_while_c169.f k a0 0 19).bind fun t126 => ((lex_alone.f a0 t126).bind fun t127 => (some (3, t127)))) else (if (bt a0 0) = 39 then ((lex_quoted.f k a0).bind fun t128 => (some (4, t128))) else (if (bt a0 0) = 36 then (if (a0.size : Int) < 2 then (lex_one.j0 k a0 true) else (if 1 < (a0.size : Int) then (if (bt a0 1) < 49 then (lex_one.j0 k a0 true) else (lex_one.j0 k a0 (decide ((bt a0 1) > 54)))) else (none))) else ((lex_sign.f a0).bind fun t130 => (some (6, t130))))))))) = some (r1, r2) := H
      have A8 := Cs.am A80
      clear A80
      by_cases c9 : t121 = true
      · subst c9
        have H1 : ((lex_while_c172.f k a0 0 16).bind fun t122 => ((lex_alone.f a0 t122).bind fun t123 => (some (2, t123)))) = some (r1, r2) := by rw [if_pos rfl] at H; exact H
        clear H
        have H := H1
        clear H1
        replace H := Option.bind_eq_some_iff.mp H
        obtain ⟨t122, A100, H⟩ := H
        replace H : ((lex_alone.f a0 t122).bind fun t123 => (some (2, t123))) = some (r1, r2) := H
        have A10 := Cs.am A100
        clear A100
        replace H := Option.bind_eq_some_iff.mp H
        obtain ⟨t123, A110, H⟩ := H
        replace H : (some (2, t123)) = some (r1, r2) := H
        have A11 := Cs.am A110
        clear A110
        simp only [Option.some.injEq, Prod.mk.injEq] at H
        obtain ⟨rfl, rfl⟩ := H
        have p3 : 0 ≤ (0 : Int) := (by omega)
        have q3 : 0 < a0.size := (by have : (0 : Int) < (a0.size : Int) := of_decide_eq_true (by first | (with_reducible assumption) | assumption); omega)
        have hx3 : ∀ h : 0 < a0.size, ((a0[0]'h).toNat : Int) = bt a0 0 := bt_at a0 0
        clear p3
        have qi3 : (0 < (a0.size : Int)) = True := eq_true (of_decide_eq_true (by first | (with_reducible assumption) | assumption))
        replace q3 := eq_true q3
        go_enter Try.func158, Try.ntmps158
        go_wp2_with (first | ((with_reducible refine gate_callee (f := 166) rfl ?_); refine goesL_ (some 11) rfl rfl Try.func166 (by kernel_rfl) rfl #[.int .u8 (bt a0 0)] rfl (by (try simp only [List.map_toArray, List.map_cons, List.map_nil]); first | done | rfl | (simp only [List.length_drop, List.length_take]; rfl)) ?_; (with_reducible refine (lex_small.calls (bt a0 0) false _ A4.out).mono ?_); rintro e w' ⟨rfl, ⟨nd, rfl⟩⟩; refine ⟨_, rfl, ?_⟩) | ((with_reducible refine gate_callee (f := 171) rfl ?_); refine goesL_ (some 19) rfl rfl Try.func171 (by kernel_rfl) rfl #[.int .u8 (bt a0 0)] rfl (by (try simp only [List.map_toArray, List.map_cons, List.map_nil]); first | done | rfl | (simp only [List.length_drop, List.length_take]; rfl)) ?_; (with_reducible refine (lex_capital.calls (bt a0 0) true _ A8.out).mono ?_); rintro e w' ⟨rfl, ⟨nd, rfl⟩⟩; refine ⟨_, rfl, ?_⟩) | ((with_reducible refine gate_callee (f := 167) rfl ?_); refine goesL_ (some 21) rfl rfl Try.func167 (by kernel_rfl) rfl #[.string a0, .int .i64 0, .int .i64 16, .func (.func 172) #[] #[]] rfl (by (try simp only [List.map_toArray, List.map_cons, List.map_nil]); first | done | rfl | (simp only [List.length_drop, List.length_take]; rfl)) ?_; (with_reducible refine (lex_while_c172.calls k a0 0 16  t122 _ A10.out).mono ?_); rintro e w' ⟨rfl, ⟨nd, rfl⟩⟩; refine ⟨_, rfl, ?_⟩) | ((with_reducible refine gate_callee (f := 170) rfl ?_); refine goesL_ (some 24) rfl rfl Try.func170 (by kernel_rfl) rfl #[.string a0, .int .i64 t122] rfl (by (try simp only [List.map_toArray, List.map_cons, List.map_nil]); first | done | rfl | (simp only [List.length_drop, List.length_take]; rfl)) ?_; (with_reducible refine (lex_alone.calls a0 t122 t123 _ A11.out).mono ?_); rintro e w' ⟨rfl, ⟨nd, rfl⟩⟩; refine ⟨_, rfl, ?_⟩))
        go_ret2
        exact ⟨by first | rfl | (simp [errW_none, errW_some] <;> rfl) | (simp [*, errW_none, errW_some] <;> rfl), by repeat (first | (with_reducible first | exact HB.out | apply Cs.ba | apply Cs.bn | apply Cs.bd) | exact HB.out)⟩
      · replace c9 := Bool.eq_false_iff.mpr c9
        subst c9
        have H1 : (if (bt a0 0) = 48 then ((lex_alone.f a0 1).bind fun t124 => (some (3, t124))) else ((lex_digit.f (bt a0 0)).bind fun t125 => (if t125 = true then ((lex_while_c169.f k a0 0 19).bind fun t126 => ((lex_alone.f a0 t126).bind fun t127 => (some (3, t127)))) else (if (bt a0 0) = 39 then ((lex_quoted.f k a0).bind fun t128 => (some (4, t128))) else (if (bt a0 0) = 36 then (if (a0.size : Int) < 2 then (lex_one.j0 k a0 true) else (if 1 < (a0.size : Int) then (if (bt a0 1) < 49 then (lex_one.j0 k a0 true) else (lex_one.j0 k a0 (decide ((bt a0 1) > 54)))) else (none))) else ((lex_sign.f a0).bind fun t130 => (some (6, t130)))))))) = some (r1, r2) := by rw [if_neg (show ¬ (false = true) by decide)] at H; exact H
        clear H
        have H := H1
        clear H1
        by_cases c12 : (bt a0 0) = 48
        · rw [if_pos c12] at H
          have c12b0 : ((bt a0 0) == 48) = true := beq_iff_eq.mpr c12
          have c12b1 : ((bt a0 0) != 48) = false := bne_eq_false_iff_eq.mpr c12
          clear c12
          replace H := Option.bind_eq_some_iff.mp H
          obtain ⟨t124, A130, H⟩ := H
          replace H : (some (3, t124)) = some (r1, r2) := H
          have A13 := Cs.am A130
          clear A130
          simp only [Option.some.injEq, Prod.mk.injEq] at H
          obtain ⟨rfl, rfl⟩ := H
          have p3 : 0 ≤ (0 : Int) := (by omega)
          have q3 : 0 < a0.size := (by have : (0 : Int) < (a0.size : Int) := of_decide_eq_true (by first | (with_reducible assumption) | assumption); omega)
          have hx3 : ∀ h : 0 < a0.size, ((a0[0]'h).toNat : Int) = bt a0 0 := bt_at a0 0
          clear p3
          have qi3 : (0 < (a0.size : Int)) = True := eq_true (of_decide_eq_true (by first | (with_reducible assumption) | assumption))
          replace q3 := eq_true q3
          go_enter Try.func158, Try.ntmps158
          go_wp2_with (first | ((with_reducible refine gate_callee (f := 166) rfl ?_); refine goesL_ (some 11) rfl rfl Try.func166 (by kernel_rfl) rfl #[.int .u8 (bt a0 0)] rfl (by (try simp only [List.map_toArray, List.map_cons, List.map_nil]); first | done | rfl | (simp only [List.length_drop, List.length_take]; rfl)) ?_; (with_reducible refine (lex_small.calls (bt a0 0) false _ A4.out).mono ?_); rintro e w' ⟨rfl, ⟨nd, rfl⟩⟩; refine ⟨_, rfl, ?_⟩) | ((with_reducible refine gate_callee (f := 171) rfl ?_); refine goesL_ (some 19) rfl rfl Try.func171 (by kernel_rfl) rfl #[.int .u8 (bt a0 0)] rfl (by (try simp only [List.map_toArray, List.map_cons, List.map_nil]); first | done | rfl | (simp only [List.length_drop, List.length_take]; rfl)) ?_; (with_reducible refine (lex_capital.calls (bt a0 0) false _ A8.out).mono ?_); rintro e w' ⟨rfl, ⟨nd, rfl⟩⟩; refine ⟨_, rfl, ?_⟩) | ((with_reducible refine gate_callee (f := 170) rfl ?_); refine goesL_ (some 29) rfl rfl Try.func170 (by kernel_rfl) rfl #[.string a0, .int .i64 1] rfl (by (try simp only [List.map_toArray, List.map_cons, List.map_nil]); first | done | rfl | (simp only [List.length_drop, List.length_take]; rfl)) ?_; (with_reducible refine (lex_alone.calls a0 1 t124 _ A13.out).mono ?_); rintro e w' ⟨rfl, ⟨nd, rfl⟩⟩; refine ⟨_, rfl, ?_⟩))
          go_ret2
          exact ⟨by first | rfl | (simp [errW_none, errW_some] <;> rfl) | (simp [*, errW_none, errW_some] <;> rfl), by repeat (first | (with_reducible first | exact HB.out | apply Cs.ba | apply Cs.bn | apply Cs.bd) | exact HB.out)⟩
        · rw [if_neg c12] at H
          have c12b0 : ((bt a0 0) == 48) = false := beq_eq_false_iff_ne.mpr c12
          have c12b1 : ((bt a0 0) != 48) = true := bne_iff_ne.mpr c12
          replace H := Option.bind_eq_some_iff.mp H
          obtain ⟨t125, A140, H⟩ := H
          replace H : (if t125 = true then ((lex_while_c169.f k a0 0 19).bind fun t126 => ((lex_alone.f a0 t126).bind fun t127 => (some (3, t127)))) else (if (bt a0 0) = 39 then ((lex_quoted.f k a0).bind fun t128 => (some (4, t128))) else (if (bt a0 0) = 36 then (if (a0.size : Int) < 2 then (lex_one.j0 k a0 true) else (if 1 < (a0.size : Int) then (if (bt a0 1) < 49 then (lex_one.j0 k a0 true) else (lex_one.j0 k a0 (decide ((bt a0 1) > 54)))) else (none))) else ((lex_sign.f a0).bind fun t130 => (some (6, t130)))))) = some (r1, r2) := H
          have A14 := Cs.am A140
          clear A140
          by_cases c15 : t125 = true
          · subst c15
            have H1 : ((lex_while_c169.f k a0 0 19).bind fun t126 => ((lex_alone.f a0 t126).bind fun t127 => (some (3, t127)))) = some (r1, r2) := by rw [if_pos rfl] at H; exact H
            clear H
            have H := H1
            clear H1
            replace H := Option.bind_eq_some_iff.mp H
            obtain ⟨t126, A160, H⟩ := H
            replace H : ((lex_alone.f a0 t126).bind fun t127 => (some (3, t127))) = some (r1, r2) := H
            have A16 := Cs.am A160
            clear A160
            replace H := Option.bind_eq_some_iff.mp H
            obtain ⟨t127, A170, H⟩ := H
            replace H : (some (3, t127)) = some (r1, r2) := H
            have A17 := Cs.am A170
            clear A170
            simp only [Option.some.injEq, Prod.mk.injEq] at H
            obtain ⟨rfl, rfl⟩ := H
            have p3 : 0 ≤ (0 : Int) := (by omega)
            have q3 : 0 < a0.size := (by have : (0 : Int) < (a0.size : Int) := of_decide_eq_true (by first | (with_reducible assumption) | assumption); omega)
            have hx3 : ∀ h : 0 < a0.size, ((a0[0]'h).toNat : Int) = bt a0 0 := bt_at a0 0
            clear p3
            have qi3 : (0 < (a0.size : Int)) = True := eq_true (of_decide_eq_true (by first | (with_reducible assumption) | assumption))
            replace q3 := eq_true q3
            go_enter Try.func158, Try.ntmps158
            go_wp2_with (first | ((with_reducible refine gate_callee (f := 166) rfl ?_); refine goesL_ (some 11) rfl rfl Try.func166 (by kernel_rfl) rfl #[.int .u8 (bt a0 0)] rfl (by (try simp only [List.map_toArray, List.map_cons, List.map_nil]); first | done | rfl | (simp only [List.length_drop, List.length_take]; rfl)) ?_; (with_reducible refine (lex_small.calls (bt a0 0) false _ A4.out).mono ?_); rintro e w' ⟨rfl, ⟨nd, rfl⟩⟩; refine ⟨_, rfl, ?_⟩) | ((with_reducible refine gate_callee (f := 171) rfl ?_); refine goesL_ (some 19) rfl rfl Try.func171 (by kernel_rfl) rfl #[.int .u8 (bt a0 0)] rfl (by (try simp only [List.map_toArray, List.map_cons, List.map_nil]); first | done | rfl | (simp only [List.length_drop, List.length_take]; rfl)) ?_; (with_reducible refine (lex_capital.calls (bt a0 0) false _ A8.out).mono ?_); rintro e w' ⟨rfl, ⟨nd, rfl⟩⟩; refine ⟨_, rfl, ?_⟩) | ((with_reducible refine gate_callee (f := 169) rfl ?_); refine goesL_ (some 32) rfl rfl Try.func169 (by kernel_rfl) rfl #[.int .u8 (bt a0 0)] rfl (by (try simp only [List.map_toArray, List.map_cons, List.map_nil]); first | done | rfl | (simp only [List.length_drop, List.length_take]; rfl)) ?_; (with_reducible refine (lex_digit.calls (bt a0 0) true _ A14.out).mono ?_); rintro e w' ⟨rfl, ⟨nd, rfl⟩⟩; refine ⟨_, rfl, ?_⟩) | ((with_reducible refine gate_callee (f := 167) rfl ?_); refine goesL_ (some 35) rfl rfl Try.func167 (by kernel_rfl) rfl #[.string a0, .int .i64 0, .int .i64 19, .func (.func 169) #[] #[]] rfl (by (try simp only [List.map_toArray, List.map_cons, List.map_nil]); first | done | rfl | (simp only [List.length_drop, List.length_take]; rfl)) ?_; (with_reducible refine (lex_while_c169.calls k a0 0 19  t126 _ A16.out).mono ?_); rintro e w' ⟨rfl, ⟨nd, rfl⟩⟩; refine ⟨_, rfl, ?_⟩) | ((with_reducible refine gate_callee (f := 170) rfl ?_); refine goesL_ (some 36) rfl rfl Try.func170 (by kernel_rfl) rfl #[.string a0, .int .i64 t126] rfl (by (try simp only [List.map_toArray, List.map_cons, List.map_nil]); first | done | rfl | (simp only [List.length_drop, List.length_take]; rfl)) ?_; (with_reducible refine (lex_alone.calls a0 t126 t127 _ A17.out).mono ?_); rintro e w' ⟨rfl, ⟨nd, rfl⟩⟩; refine ⟨_, rfl, ?_⟩))
            go_ret2
            exact ⟨by first | rfl | (simp [errW_none, errW_some] <;> rfl) | (simp [*, errW_none, errW_some] <;> rfl), by repeat (first | (with_reducible first | exact HB.out | apply Cs.ba | apply Cs.bn | apply Cs.bd) | exact HB.out)⟩
          · replace c15 := Bool.eq_false_iff.mpr c15
            subst c15
            have H1 : (if (bt a0 0) = 39 then ((lex_quoted.f k a0).bind fun t128 => (some (4, t128))) else (if (bt a0 0) = 36 then (if (a0.size : Int) < 2 then (lex_one.j0 k a0 true) else (if 1 < (a0.size : Int) then (if (bt a0 1) < 49 then (lex_one.j0 k a0 true) else (lex_one.j0 k a0 (decide ((bt a0 1) > 54)))) else (none))) else ((lex_sign.f a0).bind fun t130 => (some (6, t130))))) = some (r1, r2) := by rw [if_neg (show ¬ (false = true) by decide)] at H; exact H
            clear H
            have H := H1
            clear H1
            by_cases c18 : (bt a0 0) = 39
            · rw [if_pos c18] at H
              have c18b0 : ((bt a0 0) == 39) = true := beq_iff_eq.mpr c18
              have c18b1 : ((bt a0 0) != 39) = false := bne_eq_false_iff_eq.mpr c18
              clear c18
              replace H := Option.bind_eq_some_iff.mp H
              obtain ⟨t128, A190, H⟩ := H
              replace H : (some (4, t128)) = some (r1, r2) := H
              have A19 := Cs.am A190
              clear A190
              simp only [Option.some.injEq, Prod.mk.injEq] at H
              obtain ⟨rfl, rfl⟩ := H
              have p3 : 0 ≤ (0 : Int) := (by omega)
              have q3 : 0 < a0.size := (by have : (0 : Int) < (a0.size : Int) := of_decide_eq_true (by first | (with_reducible assumption) | assumption); omega)
              have hx3 : ∀ h : 0 < a0.size, ((a0[0]'h).toNat : Int) = bt a0 0 := bt_at a0 0
              clear p3
              have qi3 : (0 < (a0.size : Int)) = True := eq_true (of_decide_eq_true (by first | (with_reducible assumption) | assumption))
              replace q3 := eq_true q3
              go_enter Try.func158, Try.ntmps158
              go_wp2_with (first | ((with_reducible refine gate_callee (f := 166) rfl ?_); refine goesL_ (some 11) rfl rfl Try.func166 (by kernel_rfl) rfl #[.int .u8 (bt a0 0)] rfl (by (try simp only [List.map_toArray, List.map_cons, List.map_nil]); first | done | rfl | (simp only [List.length_drop, List.length_take]; rfl)) ?_; (with_reducible refine (lex_small.calls (bt a0 0) false _ A4.out).mono ?_); rintro e w' ⟨rfl, ⟨nd, rfl⟩⟩; refine ⟨_, rfl, ?_⟩) | ((with_reducible refine gate_callee (f := 171) rfl ?_); refine goesL_ (some 19) rfl rfl Try.func171 (by kernel_rfl) rfl #[.int .u8 (bt a0 0)] rfl (by (try simp only [List.map_toArray, List.map_cons, List.map_nil]); first | done | rfl | (simp only [List.length_drop, List.length_take]; rfl)) ?_; (with_reducible refine (lex_capital.calls (bt a0 0) false _ A8.out).mono ?_); rintro e w' ⟨rfl, ⟨nd, rfl⟩⟩; refine ⟨_, rfl, ?_⟩) | ((with_reducible refine gate_callee (f := 169) rfl ?_); refine goesL_ (some 32) rfl rfl Try.func169 (by kernel_rfl) rfl #[.int .u8 (bt a0 0)] rfl (by (try simp only [List.map_toArray, List.map_cons, List.map_nil]); first | done | rfl | (simp only [List.length_drop, List.length_take]; rfl)) ?_; (with_reducible refine (lex_digit.calls (bt a0 0) false _ A14.out).mono ?_); rintro e w' ⟨rfl, ⟨nd, rfl⟩⟩; refine ⟨_, rfl, ?_⟩) | ((with_reducible refine gate_callee (f := 173) rfl ?_); refine goesL_ (some 41) rfl rfl Try.func173 (by kernel_rfl) rfl #[.string a0] rfl (by (try simp only [List.map_toArray, List.map_cons, List.map_nil]); first | done | rfl | (simp only [List.length_drop, List.length_take]; rfl)) ?_; (with_reducible refine (lex_quoted.calls k a0 t128 _ A19.out).mono ?_); rintro e w' ⟨rfl, ⟨nd, rfl⟩⟩; refine ⟨_, rfl, ?_⟩))
              go_ret2
              exact ⟨by first | rfl | (simp [errW_none, errW_some] <;> rfl) | (simp [*, errW_none, errW_some] <;> rfl), by repeat (first | (with_reducible first | exact HB.out | apply Cs.ba | apply Cs.bn | apply Cs.bd) | exact HB.out)⟩
            · rw [if_neg c18] at H
              have c18b0 : ((bt a0 0) == 39) = false := beq_eq_false_iff_ne.mpr c18
              have c18b1 : ((bt a0 0) != 39) = true := bne_iff_ne.mpr c18
              by_cases c20 : (bt a0 0) = 36
              · rw [if_pos c20] at H
                have c20b0 : ((bt a0 0) == 36) = true := beq_iff_eq.mpr c20
                have c20b1 : ((bt a0 0) != 36) = false := bne_eq_false_iff_eq.mpr c20
                clear c20
                have HC21 := Cs.am H
                clear H
                have p3 : 0 ≤ (0 : Int) := (by omega)
                have q3 : 0 < a0.size := (by have : (0 : Int) < (a0.size : Int) := of_decide_eq_true (by first | (with_reducible assumption) | assumption); omega)
                have hx3 : ∀ h : 0 < a0.size, ((a0[0]'h).toNat : Int) = bt a0 0 := bt_at a0 0
                clear p3
                have qi3 : (0 < (a0.size : Int)) = True := eq_true (of_decide_eq_true (by first | (with_reducible assumption) | assumption))
                replace q3 := eq_true q3
                go_enter Try.func158, Try.ntmps158
                go_upto_region 15 with (first | ((with_reducible refine gate_callee (f := 166) rfl ?_); refine goesL_ (some 11) rfl rfl Try.func166 (by kernel_rfl) rfl #[.int .u8 (bt a0 0)] rfl (by (try simp only [List.map_toArray, List.map_cons, List.map_nil]); first | done | rfl | (simp only [List.length_drop, List.length_take]; rfl)) ?_; (with_reducible refine (lex_small.calls (bt a0 0) false _ A4.out).mono ?_); rintro e w' ⟨rfl, ⟨nd, rfl⟩⟩; refine ⟨_, rfl, ?_⟩) | ((with_reducible refine gate_callee (f := 171) rfl ?_); refine goesL_ (some 19) rfl rfl Try.func171 (by kernel_rfl) rfl #[.int .u8 (bt a0 0)] rfl (by (try simp only [List.map_toArray, List.map_cons, List.map_nil]); first | done | rfl | (simp only [List.length_drop, List.length_take]; rfl)) ?_; (with_reducible refine (lex_capital.calls (bt a0 0) false _ A8.out).mono ?_); rintro e w' ⟨rfl, ⟨nd, rfl⟩⟩; refine ⟨_, rfl, ?_⟩) | ((with_reducible refine gate_callee (f := 169) rfl ?_); refine goesL_ (some 32) rfl rfl Try.func169 (by kernel_rfl) rfl #[.int .u8 (bt a0 0)] rfl (by (try simp only [List.map_toArray, List.map_cons, List.map_nil]); first | done | rfl | (simp only [List.length_drop, List.length_take]; rfl)) ?_; (with_reducible refine (lex_digit.calls (bt a0 0) false _ A14.out).mono ?_); rintro e w' ⟨rfl, ⟨nd, rfl⟩⟩; refine ⟨_, rfl, ?_⟩))
                (try simp only [Act.put, List.setIfInBounds_toArray, List.set_cons_zero, List.set_cons_succ])
                go_cut [57] (fun v57 wc => ∃ (kq : Nat) (x57_20 : Bool), v57 = .bool x57_20 ∧ Aside0 (lex_one.j0 kq a0 x57_20 = some (r1, r2)) ∧ Aside0 (kq ≤ k) ∧ Aside0 (Below w.heap.size w wc))
                case first =>
                  have H := HC21.out
                  clear HC21
                  by_cases c22 : (a0.size : Int) < 2
                  · rw [if_pos c22] at H
                    have c22b0 : decide ((a0.size : Int) < 2) = true := decide_eq_true c22
                    have c22b1 : decide (a0.size < 2) = true := decide_eq_true (by omega)
                    clear c22
                    (first | rw [c22b0] | (simp only [i64_w, i32_w]; rw [c22b0]) | skip)
                    have H' := Cs.am H
                    clear H
                    go_wp2
                    go_meet
                    case rel => exact ⟨_, (true), (by first | rfl | (simp; done) | (simp [*]; done)), H', ⟨by first | omega | exact Nat.le_refl _⟩, ⟨by repeat (first | (with_reducible first | exact HB.out | apply Cs.ba | apply Cs.bn | apply Cs.bd) | exact HB.out)⟩⟩
                  · rw [if_neg c22] at H
                    have c22b0 : decide ((a0.size : Int) < 2) = false := decide_eq_false c22
                    have c22b1 : decide (a0.size < 2) = false := decide_eq_false (by omega)
                    clear c22
                    (first | rw [c22b0] | (simp only [i64_w, i32_w]; rw [c22b0]) | skip)
                    by_cases c23 : 1 < (a0.size : Int)
                    · rw [if_pos c23] at H
                      have c23b0 : decide (1 < (a0.size : Int)) = true := decide_eq_true c23
                      have c23b1 : decide (1 < a0.size) = true := decide_eq_true (by omega)
                      clear c23
                      by_cases c25 : (bt a0 1) < 49
                      · rw [if_pos c25] at H
                        have c25b0 : decide ((bt a0 1) < 49) = true := decide_eq_true c25
                        clear c25
                        have H' := Cs.am H
                        clear H
                        have p24 : 0 ≤ (1 : Int) := (by omega)
                        have q24 : 1 < a0.size := (by have : (1 : Int) < (a0.size : Int) := of_decide_eq_true (by first | (with_reducible assumption) | assumption); omega)
                        have hx24 : ∀ h : 1 < a0.size, ((a0[1]'h).toNat : Int) = bt a0 1 := bt_at a0 1
                        clear p24
                        have qi24 : (1 < (a0.size : Int)) = True := eq_true (of_decide_eq_true (by first | (with_reducible assumption) | assumption))
                        replace q24 := eq_true q24
                        go_wp2
                        go_meet
                        case rel => exact ⟨_, (true), (by first | rfl | (simp; done) | (simp [*]; done)), H', ⟨by first | omega | exact Nat.le_refl _⟩, ⟨by repeat (first | (with_reducible first | exact HB.out | apply Cs.ba | apply Cs.bn | apply Cs.bd) | exact HB.out)⟩⟩
                      · rw [if_neg c25] at H
                        have c25b0 : decide ((bt a0 1) < 49) = false := decide_eq_false c25
                        clear c25
                        have H' := Cs.am H
                        clear H
                        have p24 : 0 ≤ (1 : Int) := (by omega)
                        have q24 : 1 < a0.size := (by have : (1 : Int) < (a0.size : Int) := of_decide_eq_true (by first | (with_reducible assumption) | assumption); omega)
                        have hx24 : ∀ h : 1 < a0.size, ((a0[1]'h).toNat : Int) = bt a0 1 := bt_at a0 1
                        clear p24
                        have qi24 : (1 < (a0.size : Int)) = True := eq_true (of_decide_eq_true (by first | (with_reducible assumption) | assumption))
                        replace q24 := eq_true q24
                        have p26 : 0 ≤ (1 : Int) := (by omega)
                        have q26 : 1 < a0.size := (by have : (1 : Int) < (a0.size : Int) := of_decide_eq_true (by first | (with_reducible assumption) | assumption); omega)
                        have hx26 : ∀ h : 1 < a0.size, ((a0[1]'h).toNat : Int) = bt a0 1 := bt_at a0 1
                        clear p26
                        have qi26 : (1 < (a0.size : Int)) = True := eq_true (of_decide_eq_true (by first | (with_reducible assumption) | assumption))
                        replace q26 := eq_true q26
                        go_wp2
                        go_meet
                        case rel => exact ⟨_, (decide ((bt a0 1) > 54)), (by first | rfl | (simp; done) | (simp [*]; done)), H', ⟨by first | omega | exact Nat.le_refl _⟩, ⟨by repeat (first | (with_reducible first | exact HB.out | apply Cs.ba | apply Cs.bn | apply Cs.bd) | exact HB.out)⟩⟩
                    · rw [if_neg c23] at H
                      exact absurd H (by simp)
                case rest =>
                  clear HC21
                  try clear c1
                  try clear c2
                  try clear c2b0
                  try clear c2b1
                  try clear p2
                  try clear q2
                  try clear hx2
                  try clear qi2
                  try clear p3
                  try clear q3
                  try clear hx3
                  try clear qi3
                  try clear c5
                  try clear c9
                  try clear c12
                  try clear c12b0
                  try clear c12b1
                  try clear c15
                  try clear c16
                  try clear c17
                  try clear c18
                  try clear c18b0
                  try clear c18b1
                  try clear c20
                  try clear c20b0
                  try clear c20b1
                  try clear c22
                  try clear c22b0
                  try clear c22b1
                  try clear c23
                  try clear c23b0
                  try clear c23b1
                  try clear p24
                  try clear q24
                  try clear hx24
                  try clear qi24
                  try clear c25
                  try clear c25b0
                  try clear p26
                  try clear q26
                  try clear hx26
                  try clear qi26
                  try clear p24
                  try clear p26
                  try clear p3
                  try clear q24
                  try clear q26
                  try clear q3
                  obtain ⟨kq, x57_20, rfl, HA, HJ20, HB⟩ := hcut
                  cases kq with
                  | zero => exact absurd HA.out (by simp [lex_one.j0])
                  | succ kj20 =>
                    have H := HA.out
                    clear HA
                    simp only [lex_one.j0] at H
                    by_cases c27 : x57_20 = true
                    · subst c27
                      have H1 : (some (5, 0)) = some (r1, r2) := by rw [if_pos rfl] at H; exact H
                      clear H
                      have H := H1
                      clear H1
                      simp only [Option.some.injEq, Prod.mk.injEq] at H
                      obtain ⟨rfl, rfl⟩ := H
                      go_wp2
                      go_ret2
                      exact ⟨by first | rfl | (simp [errW_none, errW_some] <;> rfl) | (simp [*, errW_none, errW_some] <;> rfl), by repeat (first | (with_reducible first | exact HB.out | apply Cs.ba | apply Cs.bn | apply Cs.bd) | exact HB.out)⟩
                    · replace c27 := Bool.eq_false_iff.mpr c27
                      subst c27
                      have H1 : ((lex_alone.f a0 2).bind fun t129 => (some (5, t129))) = some (r1, r2) := by rw [if_neg (show ¬ (false = true) by decide)] at H; exact H
                      clear H
                      have H := H1
                      clear H1
                      replace H := Option.bind_eq_some_iff.mp H
                      obtain ⟨t129, A280, H⟩ := H
                      replace H : (some (5, t129)) = some (r1, r2) := H
                      have A28 := Cs.am A280
                      clear A280
                      simp only [Option.some.injEq, Prod.mk.injEq] at H
                      obtain ⟨rfl, rfl⟩ := H
                      go_wp2_with (first | ((with_reducible refine gate_callee (f := 170) rfl ?_); refine goesL_ (some 59) rfl rfl Try.func170 (by kernel_rfl) rfl #[.string a0, .int .i64 2] rfl (by (try simp only [List.map_toArray, List.map_cons, List.map_nil]); first | done | rfl | (simp only [List.length_drop, List.length_take]; rfl)) ?_; (with_reducible refine (lex_alone.calls a0 2 t129 _ A28.out).mono ?_); rintro e w' ⟨rfl, ⟨nd, rfl⟩⟩; refine ⟨_, rfl, ?_⟩))
                      go_ret2
                      exact ⟨by first | rfl | (simp [errW_none, errW_some] <;> rfl) | (simp [*, errW_none, errW_some] <;> rfl), by repeat (first | (with_reducible first | exact HB.out | apply Cs.ba | apply Cs.bn | apply Cs.bd) | exact HB.out)⟩
              · rw [if_neg c20] at H
                have c20b0 : ((bt a0 0) == 36) = false := beq_eq_false_iff_ne.mpr c20
                have c20b1 : ((bt a0 0) != 36) = true := bne_iff_ne.mpr c20
                replace H := Option.bind_eq_some_iff.mp H
                obtain ⟨t130, A290, H⟩ := H
                replace H : (some (6, t130)) = some (r1, r2) := H
                have A29 := Cs.am A290
                clear A290
                simp only [Option.some.injEq, Prod.mk.injEq] at H
                obtain ⟨rfl, rfl⟩ := H
                have p3 : 0 ≤ (0 : Int) := (by omega)
                have q3 : 0 < a0.size := (by have : (0 : Int) < (a0.size : Int) := of_decide_eq_true (by first | (with_reducible assumption) | assumption); omega)
                have hx3 : ∀ h : 0 < a0.size, ((a0[0]'h).toNat : Int) = bt a0 0 := bt_at a0 0
                clear p3
                have qi3 : (0 < (a0.size : Int)) = True := eq_true (of_decide_eq_true (by first | (with_reducible assumption) | assumption))
                replace q3 := eq_true q3
                go_enter Try.func158, Try.ntmps158
                go_wp2_with (first | ((with_reducible refine gate_callee (f := 166) rfl ?_); refine goesL_ (some 11) rfl rfl Try.func166 (by kernel_rfl) rfl #[.int .u8 (bt a0 0)] rfl (by (try simp only [List.map_toArray, List.map_cons, List.map_nil]); first | done | rfl | (simp only [List.length_drop, List.length_take]; rfl)) ?_; (with_reducible refine (lex_small.calls (bt a0 0) false _ A4.out).mono ?_); rintro e w' ⟨rfl, ⟨nd, rfl⟩⟩; refine ⟨_, rfl, ?_⟩) | ((with_reducible refine gate_callee (f := 171) rfl ?_); refine goesL_ (some 19) rfl rfl Try.func171 (by kernel_rfl) rfl #[.int .u8 (bt a0 0)] rfl (by (try simp only [List.map_toArray, List.map_cons, List.map_nil]); first | done | rfl | (simp only [List.length_drop, List.length_take]; rfl)) ?_; (with_reducible refine (lex_capital.calls (bt a0 0) false _ A8.out).mono ?_); rintro e w' ⟨rfl, ⟨nd, rfl⟩⟩; refine ⟨_, rfl, ?_⟩) | ((with_reducible refine gate_callee (f := 169) rfl ?_); refine goesL_ (some 32) rfl rfl Try.func169 (by kernel_rfl) rfl #[.int .u8 (bt a0 0)] rfl (by (try simp only [List.map_toArray, List.map_cons, List.map_nil]); first | done | rfl | (simp only [List.length_drop, List.length_take]; rfl)) ?_; (with_reducible refine (lex_digit.calls (bt a0 0) false _ A14.out).mono ?_); rintro e w' ⟨rfl, ⟨nd, rfl⟩⟩; refine ⟨_, rfl, ?_⟩) | ((with_reducible refine gate_callee (f := 174) rfl ?_); refine goesL_ (some 61) rfl rfl Try.func174 (by kernel_rfl) rfl #[.string a0] rfl (by (try simp only [List.map_toArray, List.map_cons, List.map_nil]); first | done | rfl | (simp only [List.length_drop, List.length_take]; rfl)) ?_; (with_reducible refine (lex_sign.calls a0 t130 _ A29.out).mono ?_); rintro e w30 ⟨rfl, hb⟩; refine ⟨_, rfl, ?_⟩; have n0_ := Cs.am (Cs.bp (by repeat (first | (with_reducible first | exact HB.out | apply Cs.ba | apply Cs.bn | apply Cs.bd) | exact HB.out)) hb); clear HB; have HB := n0_; clear n0_; (try clear hb); (try clear hb2); (try clear hk); (try clear hi)))
                go_ret2
                exact ⟨by first | rfl | (simp [errW_none, errW_some] <;> rfl) | (simp [*, errW_none, errW_some] <;> rfl), by repeat (first | (with_reducible first | exact HB.out | apply Cs.ba | apply Cs.bn | apply Cs.bd) | exact HB.out)⟩
  · rw [if_neg c2] at H
    exact absurd H (by simp)

/-! ### lex_Right: function 137 -/
def lex_Right.f (k : Nat) (a0_0 : Int) (a0_1 : ByteArray) (a0_2 : Int) : Option (Bool) := if a0_2 < 0 then (some false) else (if a0_1.toList = ([] : List UInt8) then (some (a0_0 == 7)) else ((lex_one.f k a0_1).bind fun bt132 => (if bt132.2 = (a0_1.size : Int) then (some (bt132.1 == a0_0)) else (some false))))
theorem lex_Right.mono : ∀ a0 a1 a2 k, LeO (lex_Right.f k a0 a1 a2) (lex_Right.f (k + 1) a0 a1 a2) := by
  intro a0 a1 a2 k
  unfold lex_Right.f
  repeat' first
      | (with_reducible exact lex_one.mono _ _)
      | (with_reducible exact LeO.refl _)
      | (with_reducible exact LeO.none _)
      | (with_reducible refine LeO.ite ?_ ?_)
      | (with_reducible refine LeO.bind ?_ (fun _ => ?_))
      | exact lex_one.mono _ _
      | exact LeO.none _
      | refine LeO.ite ?_ ?_
      | refine LeO.bind ?_ (fun _ => ?_)
set_option maxHeartbeats 8000000 in
set_option maxRecDepth 100000 in
theorem lex_Right.calls (k : Nat) (a0_0 : Int) (a0_1 : ByteArray) (a0_2 : Int) (r : Bool) (w : World) (h : lex_Right.f k a0_0 a0_1 a0_2 = some r) :
    Calls Try.prog 137 #[.agg #[.int .i64 a0_0, .string a0_1, .int .i64 a0_2]] w fun e w' => e = .returned (.bool r) ∧ Below w.heap.size w w' := by
  have hu143 := Try.underlying143
  have HB := Cs.am (Below.refl w.heap.size w)
  have H : (if a0_2 < 0 then (some false) else (if a0_1.toList = ([] : List UInt8) then (some (a0_0 == 7)) else ((lex_one.f k a0_1).bind fun bt132 => (if bt132.2 = (a0_1.size : Int) then (some (bt132.1 == a0_0)) else (some false))))) = some r := h
  clear h
  by_cases c2 : a0_2 < 0
  · rw [if_pos c2] at H
    have c2b0 : decide (a0_2 < 0) = true := decide_eq_true c2
    clear c2
    obtain rfl := Option.some.inj H
    go_enter Try.func137, Try.ntmps137
    go_wp2_with (first | ((with_reducible refine gate_dst (N := 1) rfl ?_); refine box_event ?hg (N := 1) ?hd (cs := #[.int .i64 a0_0, .string a0_1, .int .i64 a0_2]) (t := 143) ?hr ?_; (case hd => rfl); (case hg => rfl); (case hr => first | (go_simp; done) | (go_simp; rfl)); intro gb131 hg w3 hbox hb; have n0_ := Cs.am (Cs.bp (by repeat (first | (with_reducible first | exact HB.out | apply Cs.ba | apply Cs.bn | apply Cs.bd) | exact HB.out)) hb); have n1_ := Cs.am (hbox); have n2_ := Cs.am ((by rw [hg]; exact (Cs.bz (by repeat (first | (with_reducible first | exact HB.out | apply Cs.ba | apply Cs.bn | apply Cs.bd) | exact HB.out))) : w.heap.size ≤ gb131)); have n3_ := Cs.am ((by rw [hg]; exact (Cs.bz (by repeat (first | (with_reducible first | exact HB.out | apply Cs.ba | apply Cs.bn | apply Cs.bd) | exact HB.out))) : w.heap.size ≤ gb131)); clear HB; have HB := n0_; have BK131 := n1_; have GW131 := n2_; have GE131 := n3_; clear n0_ n1_ n2_ n3_; clear hb hbox hg; obtain ⟨hcz4_0, hcz4_1, hcz4_2⟩ := Cs.cs3 BK131.out; obtain ⟨hfz4_0, hfz4_1⟩ := Cs.fz2 BK131.out; have hfz4_2 := blk_frozen BK131.out 2))
    go_ret
    exact ⟨by first | rfl | (simp [errW_none, errW_some] <;> rfl) | (simp [*, errW_none, errW_some] <;> rfl), by repeat (first | (with_reducible first | exact HB.out | apply Cs.ba | apply Cs.bn | apply Cs.bd | refine Cs.bs ?_ GE131.out) | exact HB.out)⟩
  · rw [if_neg c2] at H
    have c2b0 : decide (a0_2 < 0) = false := decide_eq_false c2
    clear c2
    by_cases c5 : a0_1.toList = ([] : List UInt8)
    · rw [if_pos c5] at H
      have c5b0 : (a0_1.toList == ([] : List UInt8)) = true := beq_iff_eq.mpr c5
      have c5b1 : (a0_1.toList != ([] : List UInt8)) = false := bne_eq_false_iff_eq.mpr c5
      clear c5
      obtain rfl := Option.some.inj H
      go_enter Try.func137, Try.ntmps137
      go_wp2_with (first | ((with_reducible refine gate_dst (N := 1) rfl ?_); refine box_event ?hg (N := 1) ?hd (cs := #[.int .i64 a0_0, .string a0_1, .int .i64 a0_2]) (t := 143) ?hr ?_; (case hd => rfl); (case hg => rfl); (case hr => first | (go_simp; done) | (go_simp; rfl)); intro gb131 hg w6 hbox hb; have n0_ := Cs.am (Cs.bp (by repeat (first | (with_reducible first | exact HB.out | apply Cs.ba | apply Cs.bn | apply Cs.bd) | exact HB.out)) hb); have n1_ := Cs.am (hbox); have n2_ := Cs.am ((by rw [hg]; exact (Cs.bz (by repeat (first | (with_reducible first | exact HB.out | apply Cs.ba | apply Cs.bn | apply Cs.bd) | exact HB.out))) : w.heap.size ≤ gb131)); have n3_ := Cs.am ((by rw [hg]; exact (Cs.bz (by repeat (first | (with_reducible first | exact HB.out | apply Cs.ba | apply Cs.bn | apply Cs.bd) | exact HB.out))) : w.heap.size ≤ gb131)); clear HB; have HB := n0_; have BK131 := n1_; have GW131 := n2_; have GE131 := n3_; clear n0_ n1_ n2_ n3_; clear hb hbox hg; obtain ⟨hcz7_0, hcz7_1, hcz7_2⟩ := Cs.cs3 BK131.out; obtain ⟨hfz7_0, hfz7_1⟩ := Cs.fz2 BK131.out; have hfz7_2 := blk_frozen BK131.out 2))
      go_ret
      exact ⟨by first | rfl | (simp [errW_none, errW_some] <;> rfl) | (simp [*, errW_none, errW_some] <;> rfl), by repeat (first | (with_reducible first | exact HB.out | apply Cs.ba | apply Cs.bn | apply Cs.bd | refine Cs.bs ?_ GE131.out) | exact HB.out)⟩
    · rw [if_neg c5] at H
      have c5b0 : (a0_1.toList == ([] : List UInt8)) = false := beq_eq_false_iff_ne.mpr c5
      have c5b1 : (a0_1.toList != ([] : List UInt8)) = true := bne_iff_ne.mpr c5
      replace H := Option.bind_eq_some_iff.mp H
      obtain ⟨⟨t132, t133⟩, A80, H⟩ := H
      replace H : (if t133 = (a0_1.size : Int) then (some (t132 == a0_0)) else (some false)) = some r := H
      have A8 := Cs.am A80
      clear A80
      by_cases c9 : t133 = (a0_1.size : Int)
      · rw [if_pos c9] at H
        have c9b0 : (t133 == (a0_1.size : Int)) = true := beq_iff_eq.mpr c9
        have c9b1 : (t133 != (a0_1.size : Int)) = false := bne_eq_false_iff_eq.mpr c9
        clear c9
        obtain rfl := Option.some.inj H
        go_enter Try.func137, Try.ntmps137
        go_wp2_with (first | ((with_reducible refine gate_dst (N := 1) rfl ?_); refine box_event ?hg (N := 1) ?hd (cs := #[.int .i64 a0_0, .string a0_1, .int .i64 a0_2]) (t := 143) ?hr ?_; (case hd => rfl); (case hg => rfl); (case hr => first | (go_simp; done) | (go_simp; rfl)); intro gb131 hg w10 hbox hb; have n0_ := Cs.am (Cs.bp (by repeat (first | (with_reducible first | exact HB.out | apply Cs.ba | apply Cs.bn | apply Cs.bd) | exact HB.out)) hb); have n1_ := Cs.am (hbox); have n2_ := Cs.am ((by rw [hg]; exact (Cs.bz (by repeat (first | (with_reducible first | exact HB.out | apply Cs.ba | apply Cs.bn | apply Cs.bd) | exact HB.out))) : w.heap.size ≤ gb131)); have n3_ := Cs.am ((by rw [hg]; exact (Cs.bz (by repeat (first | (with_reducible first | exact HB.out | apply Cs.ba | apply Cs.bn | apply Cs.bd) | exact HB.out))) : w.heap.size ≤ gb131)); clear HB; have HB := n0_; have BK131 := n1_; have GW131 := n2_; have GE131 := n3_; clear n0_ n1_ n2_ n3_; clear hb hbox hg; obtain ⟨hcz11_0, hcz11_1, hcz11_2⟩ := Cs.cs3 BK131.out; obtain ⟨hfz11_0, hfz11_1⟩ := Cs.fz2 BK131.out; have hfz11_2 := blk_frozen BK131.out 2) | ((with_reducible refine gate_callee (f := 158) rfl ?_); refine goesL_ (some 17) rfl rfl Try.func158 (by kernel_rfl) rfl #[.string a0_1] rfl (by (try simp only [List.map_toArray, List.map_cons, List.map_nil]); first | done | rfl | (simp only [List.length_drop, List.length_take]; rfl)) ?_; (with_reducible refine (lex_one.calls k a0_1 t132 t133 _ A8.out).mono ?_); rintro e w12 ⟨rfl, hb⟩; refine ⟨_, rfl, ?_⟩; have n0_ := Cs.am (Cs.kb (g := gb131) (o := .cells #[.int .i64 a0_0, .string a0_1, .int .i64 a0_2] 143 (0, 0)) (by (with_reducible repeat (first | refine Cs.kn ?_ _ | refine Cs.kd1 ?_ | refine Cs.ka ?_ _)); exact BK131.out) hb); have n1_ := Cs.am (Cs.bp (by repeat (first | (with_reducible first | exact HB.out | apply Cs.ba | apply Cs.bn | apply Cs.bd | refine Cs.bs ?_ GE131.out) | exact HB.out)) hb); clear BK131; clear HB; have BK131 := n0_; have HB := n1_; clear n0_ n1_; (try clear hb); (try clear hb2); (try clear hk); (try clear hi); obtain ⟨hcz13_0, hcz13_1, hcz13_2⟩ := Cs.cs3 BK131.out; obtain ⟨hfz13_0, hfz13_1⟩ := Cs.fz2 BK131.out; have hfz13_2 := blk_frozen BK131.out 2))
        go_ret
        exact ⟨by first | rfl | (simp [errW_none, errW_some] <;> rfl) | (simp [*, errW_none, errW_some] <;> rfl), by repeat (first | (with_reducible first | exact HB.out | apply Cs.ba | apply Cs.bn | apply Cs.bd | refine Cs.bs ?_ GE131.out) | exact HB.out)⟩
      · rw [if_neg c9] at H
        have c9b0 : (t133 == (a0_1.size : Int)) = false := beq_eq_false_iff_ne.mpr c9
        have c9b1 : (t133 != (a0_1.size : Int)) = true := bne_iff_ne.mpr c9
        obtain rfl := Option.some.inj H
        go_enter Try.func137, Try.ntmps137
        go_wp2_with (first | ((with_reducible refine gate_dst (N := 1) rfl ?_); refine box_event ?hg (N := 1) ?hd (cs := #[.int .i64 a0_0, .string a0_1, .int .i64 a0_2]) (t := 143) ?hr ?_; (case hd => rfl); (case hg => rfl); (case hr => first | (go_simp; done) | (go_simp; rfl)); intro gb131 hg w14 hbox hb; have n0_ := Cs.am (Cs.bp (by repeat (first | (with_reducible first | exact HB.out | apply Cs.ba | apply Cs.bn | apply Cs.bd) | exact HB.out)) hb); have n1_ := Cs.am (hbox); have n2_ := Cs.am ((by rw [hg]; exact (Cs.bz (by repeat (first | (with_reducible first | exact HB.out | apply Cs.ba | apply Cs.bn | apply Cs.bd) | exact HB.out))) : w.heap.size ≤ gb131)); have n3_ := Cs.am ((by rw [hg]; exact (Cs.bz (by repeat (first | (with_reducible first | exact HB.out | apply Cs.ba | apply Cs.bn | apply Cs.bd) | exact HB.out))) : w.heap.size ≤ gb131)); clear HB; have HB := n0_; have BK131 := n1_; have GW131 := n2_; have GE131 := n3_; clear n0_ n1_ n2_ n3_; clear hb hbox hg; obtain ⟨hcz15_0, hcz15_1, hcz15_2⟩ := Cs.cs3 BK131.out; obtain ⟨hfz15_0, hfz15_1⟩ := Cs.fz2 BK131.out; have hfz15_2 := blk_frozen BK131.out 2) | ((with_reducible refine gate_callee (f := 158) rfl ?_); refine goesL_ (some 17) rfl rfl Try.func158 (by kernel_rfl) rfl #[.string a0_1] rfl (by (try simp only [List.map_toArray, List.map_cons, List.map_nil]); first | done | rfl | (simp only [List.length_drop, List.length_take]; rfl)) ?_; (with_reducible refine (lex_one.calls k a0_1 t132 t133 _ A8.out).mono ?_); rintro e w16 ⟨rfl, hb⟩; refine ⟨_, rfl, ?_⟩; have n0_ := Cs.am (Cs.kb (g := gb131) (o := .cells #[.int .i64 a0_0, .string a0_1, .int .i64 a0_2] 143 (0, 0)) (by (with_reducible repeat (first | refine Cs.kn ?_ _ | refine Cs.kd1 ?_ | refine Cs.ka ?_ _)); exact BK131.out) hb); have n1_ := Cs.am (Cs.bp (by repeat (first | (with_reducible first | exact HB.out | apply Cs.ba | apply Cs.bn | apply Cs.bd | refine Cs.bs ?_ GE131.out) | exact HB.out)) hb); clear BK131; clear HB; have BK131 := n0_; have HB := n1_; clear n0_ n1_; (try clear hb); (try clear hb2); (try clear hk); (try clear hi); obtain ⟨hcz17_0, hcz17_1, hcz17_2⟩ := Cs.cs3 BK131.out; obtain ⟨hfz17_0, hfz17_1⟩ := Cs.fz2 BK131.out; have hfz17_2 := blk_frozen BK131.out 2))
        go_ret
        exact ⟨by first | rfl | (simp [errW_none, errW_some] <;> rfl) | (simp [*, errW_none, errW_some] <;> rfl), by repeat (first | (with_reducible first | exact HB.out | apply Cs.ba | apply Cs.bn | apply Cs.bd | refine Cs.bs ?_ GE131.out) | exact HB.out)⟩

/-! ### lex_IsName: function 108 -/
def lex_IsName.f (k : Nat) (a0 : ByteArray) : Option (Bool) := (lex_Right.f k 1 a0 0).bind fun t134 => (some t134)
theorem lex_IsName.mono : ∀ a0 k, LeO (lex_IsName.f k a0) (lex_IsName.f (k + 1) a0) := by
  intro a0 k
  unfold lex_IsName.f
  repeat' first
      | (with_reducible exact lex_Right.mono _ _ _ _)
      | (with_reducible exact LeO.refl _)
      | (with_reducible exact LeO.none _)
      | (with_reducible refine LeO.ite ?_ ?_)
      | (with_reducible refine LeO.bind ?_ (fun _ => ?_))
      | exact lex_Right.mono _ _ _ _
      | exact LeO.none _
      | refine LeO.ite ?_ ?_
      | refine LeO.bind ?_ (fun _ => ?_)
set_option maxHeartbeats 8000000 in
set_option maxRecDepth 100000 in
theorem lex_IsName.calls (k : Nat) (a0 : ByteArray) (r : Bool) (w : World) (h : lex_IsName.f k a0 = some r) :
    Calls Try.prog 108 #[.string a0] w fun e w' => e = .returned (.bool r) ∧ Below w.heap.size w w' := by
  have hu143 := Try.underlying143
  have HB := Cs.am (Below.refl w.heap.size w)
  have H : ((lex_Right.f k 1 a0 0).bind fun t134 => (some t134)) = some r := h
  clear h
  replace H := Option.bind_eq_some_iff.mp H
  obtain ⟨t134, A20, H⟩ := H
  replace H : (some t134) = some r := H
  have A2 := Cs.am A20
  clear A20
  obtain rfl := Option.some.inj H
  go_enter Try.func108, Try.ntmps108
  go_wp2_with (first | ((with_reducible refine gate_callee (f := 137) rfl ?_); refine goesL_ (some 5) rfl rfl Try.func137 (by kernel_rfl) rfl #[.agg #[.int .i64 1, .string a0, .int .i64 0]] rfl (by (try simp only [List.map_toArray, List.map_cons, List.map_nil]); first | done | rfl | (simp only [List.length_drop, List.length_take]; rfl)) ?_; (with_reducible refine (lex_Right.calls k 1 a0 0 t134 _ A2.out).mono ?_); rintro e w3 ⟨rfl, hb⟩; refine ⟨_, rfl, ?_⟩; have n0_ := Cs.am (Cs.bp (by repeat (first | (with_reducible first | exact HB.out | apply Cs.ba | apply Cs.bn | apply Cs.bd) | exact HB.out)) hb); clear HB; have HB := n0_; clear n0_; (try clear hb); (try clear hb2); (try clear hk); (try clear hi)))
  go_ret
  exact ⟨by first | rfl | (simp [errW_none, errW_some] <;> rfl) | (simp [*, errW_none, errW_some] <;> rfl), by repeat (first | (with_reducible first | exact HB.out | apply Cs.ba | apply Cs.bn | apply Cs.bd) | exact HB.out)⟩

/-! ### value_plain: function 143 -/
def value_plain.l0 : Nat → ByteArray → Int → Int → Option (Bool)
  | 0, _, _, _ => none
  | k + 1, x0, x5, x6 => if x6 < x5 then (if 0 ≤ x6 then (if x6 < (x0.size : Int) then (if (bt x0 x6) < 32 then (some false) else (if (bt x0 x6) > 126 then (some false) else (value_plain.l0 k x0 x5 (wrap64 (x6 + 1))))) else (none)) else (none)) else (some true)
def value_plain.f (k : Nat) (a0 : ByteArray) : Option (Bool) := value_plain.l0 k a0 (a0.size : Int) 0
theorem value_plain.mono_l : ∀ k, (∀ y0 y1 y2, LeO (value_plain.l0 k y0 y1 y2) (value_plain.l0 (k + 1) y0 y1 y2))
  | 0 => fun _ _ _ r h => by simp [value_plain.l0] at h
  | k + 1 => by
    have ih0 := value_plain.mono_l k
    · intro y0 y1 y2
      unfold value_plain.l0
      repeat' first
      | (with_reducible exact ih0 _ _ _)
      | (with_reducible exact LeO.refl _)
      | (with_reducible exact LeO.none _)
      | (with_reducible refine LeO.ite ?_ ?_)
      | (with_reducible refine LeO.bind ?_ (fun _ => ?_))
      | exact ih0 _ _ _
      | exact LeO.none _
      | refine LeO.ite ?_ ?_
      | refine LeO.bind ?_ (fun _ => ?_)
theorem value_plain.mono : ∀ a0 k, LeO (value_plain.f k a0) (value_plain.f (k + 1) a0) := by
  intro a0 k
  have ih0 := value_plain.mono_l k
  unfold value_plain.f
  repeat' first
      | (with_reducible exact ih0 _ _ _)
      | (with_reducible exact LeO.refl _)
      | (with_reducible exact LeO.none _)
      | (with_reducible refine LeO.ite ?_ ?_)
      | (with_reducible refine LeO.bind ?_ (fun _ => ?_))
      | exact ih0 _ _ _
      | exact LeO.none _
      | refine LeO.ite ?_ ?_
      | refine LeO.bind ?_ (fun _ => ?_)
set_option maxHeartbeats 8000000 in
set_option maxRecDepth 100000 in
theorem value_plain.calls (k : Nat) (a0 : ByteArray) (r : Bool) (w : World) (h : value_plain.f k a0 = some r) :
    Calls Try.prog 143 #[.string a0] w fun e w' => e = .returned (.bool r) ∧ Drawn0 w w' := by
  have H : (value_plain.l0 k a0 (a0.size : Int) 0) = some r := h
  clear h
  have H' := Cs.am H
  clear H
  go_enter Try.func143, Try.ntmps143
  go_wp2
  go_loopg [6] k (fun kq v6 w' => ∃ (x6_1 : Int), v6 = .int .i64 x6_1 ∧ Aside0 (value_plain.l0 kq a0 (a0.size : Int) x6_1 = some r) ∧ Aside0 (kq ≤ k) ∧ Drawn0 w w')
  case atStart => exact ⟨(0), (by first | rfl | (simp; done) | (simp [*]; done)), H', ⟨Nat.le_refl _⟩, by repeat (first | exact Drawn0.refl _ | apply Drawn0.step)⟩
  case round =>
    clear H'
    try clear c1
    obtain ⟨x6_1, rfl, HA, HK1, ⟨m1, rfl⟩⟩ := hrel
    cases gk with
    | zero => exact absurd HA.out (by simp [value_plain.l0])
    | succ k1 =>
      have H := HA.out
      clear HA
      simp only [value_plain.l0] at H
      by_cases c2 : x6_1 < (a0.size : Int)
      · rw [if_pos c2] at H
        have c2b0 : decide (x6_1 < (a0.size : Int)) = true := decide_eq_true c2
        clear c2
        by_cases c3 : 0 ≤ x6_1
        · rw [if_pos c3] at H
          have c3b0 : decide (0 ≤ x6_1) = true := decide_eq_true c3
          clear c3
          by_cases c4 : x6_1 < (a0.size : Int)
          · rw [if_pos c4] at H
            have c4b0 : decide (x6_1 < (a0.size : Int)) = true := decide_eq_true c4
            clear c4
            by_cases c6 : (bt a0 x6_1) < 32
            · rw [if_pos c6] at H
              have c6b0 : decide ((bt a0 x6_1) < 32) = true := decide_eq_true c6
              clear c6
              obtain rfl := Option.some.inj H
              have p5 : 0 ≤ (x6_1 : Int) := of_decide_eq_true (by first | (with_reducible assumption) | assumption)
              have q5 : x6_1 < (a0.size : Int) := of_decide_eq_true (by first | (with_reducible assumption) | assumption)
              have hx5 := bt_at a0 x6_1
              replace p5 := eq_true p5
              replace q5 := eq_true q5
              go_wp2
              go_ret
              exact ⟨by first | rfl | (simp; done) | (simp [*]; done), by repeat (first | exact Drawn0.refl _ | apply Drawn0.step)⟩
            · rw [if_neg c6] at H
              have c6b0 : decide ((bt a0 x6_1) < 32) = false := decide_eq_false c6
              clear c6
              by_cases c8 : (bt a0 x6_1) > 126
              · rw [if_pos c8] at H
                have c8b0 : decide (126 < (bt a0 x6_1)) = true := decide_eq_true c8
                clear c8
                obtain rfl := Option.some.inj H
                have p5 : 0 ≤ (x6_1 : Int) := of_decide_eq_true (by first | (with_reducible assumption) | assumption)
                have q5 : x6_1 < (a0.size : Int) := of_decide_eq_true (by first | (with_reducible assumption) | assumption)
                have hx5 := bt_at a0 x6_1
                replace p5 := eq_true p5
                replace q5 := eq_true q5
                have p7 : 0 ≤ (x6_1 : Int) := of_decide_eq_true (by first | (with_reducible assumption) | assumption)
                have q7 : x6_1 < (a0.size : Int) := of_decide_eq_true (by first | (with_reducible assumption) | assumption)
                have hx7 := bt_at a0 x6_1
                replace p7 := eq_true p7
                replace q7 := eq_true q7
                go_wp2
                go_ret
                exact ⟨by first | rfl | (simp; done) | (simp [*]; done), by repeat (first | exact Drawn0.refl _ | apply Drawn0.step)⟩
              · rw [if_neg c8] at H
                have c8b0 : decide (126 < (bt a0 x6_1)) = false := decide_eq_false c8
                clear c8
                have H' := Cs.am H
                clear H
                have p5 : 0 ≤ (x6_1 : Int) := of_decide_eq_true (by first | (with_reducible assumption) | assumption)
                have q5 : x6_1 < (a0.size : Int) := of_decide_eq_true (by first | (with_reducible assumption) | assumption)
                have hx5 := bt_at a0 x6_1
                replace p5 := eq_true p5
                replace q5 := eq_true q5
                have p7 : 0 ≤ (x6_1 : Int) := of_decide_eq_true (by first | (with_reducible assumption) | assumption)
                have q7 : x6_1 < (a0.size : Int) := of_decide_eq_true (by first | (with_reducible assumption) | assumption)
                have hx7 := bt_at a0 x6_1
                replace p7 := eq_true p7
                replace q7 := eq_true q7
                go_wp2
                go_roundg k1
                case measure => have := HK1.out; omega
                case rel => exact ⟨(wrap64 (x6_1 + 1)), (by first | rfl | (simp; done) | (simp [*]; done)), H', ⟨by have := HK1.out; omega⟩, by repeat (first | exact Drawn0.refl _ | apply Drawn0.step)⟩
          · rw [if_neg c4] at H
            exact absurd H (by simp)
        · rw [if_neg c3] at H
          exact absurd H (by simp)
      · rw [if_neg c2] at H
        have c2b0 : decide (x6_1 < (a0.size : Int)) = false := decide_eq_false c2
        clear c2
        obtain rfl := Option.some.inj H
        go_wp2
        go_ret
        exact ⟨by first | rfl | (simp; done) | (simp [*]; done), by repeat (first | exact Drawn0.refl _ | apply Drawn0.step)⟩

/-! ### value_Right: function 119 -/
def value_Right.f (k : Nat) (a0_0 : Int) (a0_1 : Int) (a0_2 : ByteArray) : Option (Bool) := if a0_0 = 0 then (some (a0_0 == 0 && (a0_1 == 0 && (a0_2.toList == ([] : List UInt8))))) else (if a0_0 = 1 then (some (a0_2.toList == ([] : List UInt8))) else (if a0_0 = 2 then (if a0_2.toList = ([] : List UInt8) then (if a0_1 = 0 then (some true) else (some (a0_1 == 1))) else (some false)) else (if a0_0 = 3 then (if a0_1 = 0 then (if (a0_2.size : Int) ≤ 32 then ((value_plain.f k a0_2).bind fun t136 => (some t136)) else (some false)) else (some false)) else (some false))))
theorem value_Right.mono : ∀ a0 a1 a2 k, LeO (value_Right.f k a0 a1 a2) (value_Right.f (k + 1) a0 a1 a2) := by
  intro a0 a1 a2 k
  unfold value_Right.f
  repeat' first
      | (with_reducible exact value_plain.mono _ _)
      | (with_reducible exact LeO.refl _)
      | (with_reducible exact LeO.none _)
      | (with_reducible refine LeO.ite ?_ ?_)
      | (with_reducible refine LeO.bind ?_ (fun _ => ?_))
      | exact value_plain.mono _ _
      | exact LeO.none _
      | refine LeO.ite ?_ ?_
      | refine LeO.bind ?_ (fun _ => ?_)
set_option maxHeartbeats 8000000 in
set_option maxRecDepth 100000 in
theorem value_Right.calls (k : Nat) (a0_0 : Int) (a0_1 : Int) (a0_2 : ByteArray) (r : Bool) (w : World) (h : value_Right.f k a0_0 a0_1 a0_2 = some r) :
    Calls Try.prog 119 #[.agg #[.int .i64 a0_0, .int .i64 a0_1, .string a0_2]] w fun e w' => e = .returned (.bool r) ∧ Below w.heap.size w w' := by
  have hu23 := Try.underlying23
  have HB := Cs.am (Below.refl w.heap.size w)
  have H : (if a0_0 = 0 then (some (a0_0 == 0 && (a0_1 == 0 && (a0_2.toList == ([] : List UInt8))))) else (if a0_0 = 1 then (some (a0_2.toList == ([] : List UInt8))) else (if a0_0 = 2 then (if a0_2.toList = ([] : List UInt8) then (if a0_1 = 0 then (some true) else (some (a0_1 == 1))) else (some false)) else (if a0_0 = 3 then (if a0_1 = 0 then (if (a0_2.size : Int) ≤ 32 then ((value_plain.f k a0_2).bind fun t136 => (some t136)) else (some false)) else (some false)) else (some false))))) = some r := h
  clear h
  by_cases c2 : a0_0 = 0
  · rw [if_pos c2] at H
    have c2b0 : (a0_0 == 0) = true := beq_iff_eq.mpr c2
    have c2b1 : (a0_0 != 0) = false := bne_eq_false_iff_eq.mpr c2
    clear c2
    obtain rfl := Option.some.inj H
    go_enter Try.func119, Try.ntmps119
    go_wp2_with (first | ((with_reducible refine gate_dst (N := 1) rfl ?_); (try (refine gate_guard (by rfl) ?_; dsimp only)); refine box_event ?hg (N := 1) ?hd (cs := #[.int .i64 a0_0, .int .i64 a0_1, .string a0_2]) (t := 23) ?hr ?_; (case hd => rfl); (case hg => rfl); (case hr => first | (go_simp; done) | (go_simp; rfl)); intro gb135 hg w3 hbox hb; have n0_ := Cs.am (Cs.bp (by repeat (first | (with_reducible first | exact HB.out | apply Cs.ba | apply Cs.bn | apply Cs.bd) | exact HB.out)) hb); have n1_ := Cs.am (hbox); have n2_ := Cs.am ((by rw [hg]; exact (Cs.bz (by repeat (first | (with_reducible first | exact HB.out | apply Cs.ba | apply Cs.bn | apply Cs.bd) | exact HB.out))) : w.heap.size ≤ gb135)); have n3_ := Cs.am ((by rw [hg]; exact (Cs.bz (by repeat (first | (with_reducible first | exact HB.out | apply Cs.ba | apply Cs.bn | apply Cs.bd) | exact HB.out))) : w.heap.size ≤ gb135)); clear HB; have HB := n0_; have BK135 := n1_; have GW135 := n2_; have GE135 := n3_; clear n0_ n1_ n2_ n3_; clear hb hbox hg; obtain ⟨hcz4_0, hcz4_1, hcz4_2⟩ := Cs.cs3 BK135.out; obtain ⟨hfz4_0, hfz4_1⟩ := Cs.fz2 BK135.out; have hfz4_2 := blk_frozen BK135.out 2))
    go_ret
    exact ⟨by first | rfl | (simp [errW_none, errW_some] <;> rfl) | (simp [*, errW_none, errW_some] <;> rfl), by repeat (first | (with_reducible first | exact HB.out | apply Cs.ba | apply Cs.bn | apply Cs.bd | refine Cs.bs ?_ GE135.out) | exact HB.out)⟩
  · rw [if_neg c2] at H
    have c2b0 : (a0_0 == 0) = false := beq_eq_false_iff_ne.mpr c2
    have c2b1 : (a0_0 != 0) = true := bne_iff_ne.mpr c2
    by_cases c5 : a0_0 = 1
    · rw [if_pos c5] at H
      have c5b0 : (a0_0 == 1) = true := beq_iff_eq.mpr c5
      have c5b1 : (a0_0 != 1) = false := bne_eq_false_iff_eq.mpr c5
      clear c5
      obtain rfl := Option.some.inj H
      go_enter Try.func119, Try.ntmps119
      go_wp2_with (first | ((with_reducible refine gate_dst (N := 1) rfl ?_); (try (refine gate_guard (by rfl) ?_; dsimp only)); refine box_event ?hg (N := 1) ?hd (cs := #[.int .i64 a0_0, .int .i64 a0_1, .string a0_2]) (t := 23) ?hr ?_; (case hd => rfl); (case hg => rfl); (case hr => first | (go_simp; done) | (go_simp; rfl)); intro gb135 hg w6 hbox hb; have n0_ := Cs.am (Cs.bp (by repeat (first | (with_reducible first | exact HB.out | apply Cs.ba | apply Cs.bn | apply Cs.bd) | exact HB.out)) hb); have n1_ := Cs.am (hbox); have n2_ := Cs.am ((by rw [hg]; exact (Cs.bz (by repeat (first | (with_reducible first | exact HB.out | apply Cs.ba | apply Cs.bn | apply Cs.bd) | exact HB.out))) : w.heap.size ≤ gb135)); have n3_ := Cs.am ((by rw [hg]; exact (Cs.bz (by repeat (first | (with_reducible first | exact HB.out | apply Cs.ba | apply Cs.bn | apply Cs.bd) | exact HB.out))) : w.heap.size ≤ gb135)); clear HB; have HB := n0_; have BK135 := n1_; have GW135 := n2_; have GE135 := n3_; clear n0_ n1_ n2_ n3_; clear hb hbox hg; obtain ⟨hcz7_0, hcz7_1, hcz7_2⟩ := Cs.cs3 BK135.out; obtain ⟨hfz7_0, hfz7_1⟩ := Cs.fz2 BK135.out; have hfz7_2 := blk_frozen BK135.out 2))
      go_ret
      exact ⟨by first | rfl | (simp [errW_none, errW_some] <;> rfl) | (simp [*, errW_none, errW_some] <;> rfl), by repeat (first | (with_reducible first | exact HB.out | apply Cs.ba | apply Cs.bn | apply Cs.bd | refine Cs.bs ?_ GE135.out) | exact HB.out)⟩
    · rw [if_neg c5] at H
      have c5b0 : (a0_0 == 1) = false := beq_eq_false_iff_ne.mpr c5
      have c5b1 : (a0_0 != 1) = true := bne_iff_ne.mpr c5
      by_cases c8 : a0_0 = 2
      · rw [if_pos c8] at H
        have c8b0 : (a0_0 == 2) = true := beq_iff_eq.mpr c8
        have c8b1 : (a0_0 != 2) = false := bne_eq_false_iff_eq.mpr c8
        clear c8
        by_cases c9 : a0_2.toList = ([] : List UInt8)
        · rw [if_pos c9] at H
          have c9b0 : (a0_2.toList == ([] : List UInt8)) = true := beq_iff_eq.mpr c9
          have c9b1 : (a0_2.toList != ([] : List UInt8)) = false := bne_eq_false_iff_eq.mpr c9
          clear c9
          by_cases c10 : a0_1 = 0
          · rw [if_pos c10] at H
            have c10b0 : (a0_1 == 0) = true := beq_iff_eq.mpr c10
            have c10b1 : (a0_1 != 0) = false := bne_eq_false_iff_eq.mpr c10
            clear c10
            obtain rfl := Option.some.inj H
            go_enter Try.func119, Try.ntmps119
            go_wp2_with (first | ((with_reducible refine gate_dst (N := 1) rfl ?_); (try (refine gate_guard (by rfl) ?_; dsimp only)); refine box_event ?hg (N := 1) ?hd (cs := #[.int .i64 a0_0, .int .i64 a0_1, .string a0_2]) (t := 23) ?hr ?_; (case hd => rfl); (case hg => rfl); (case hr => first | (go_simp; done) | (go_simp; rfl)); intro gb135 hg w11 hbox hb; have n0_ := Cs.am (Cs.bp (by repeat (first | (with_reducible first | exact HB.out | apply Cs.ba | apply Cs.bn | apply Cs.bd) | exact HB.out)) hb); have n1_ := Cs.am (hbox); have n2_ := Cs.am ((by rw [hg]; exact (Cs.bz (by repeat (first | (with_reducible first | exact HB.out | apply Cs.ba | apply Cs.bn | apply Cs.bd) | exact HB.out))) : w.heap.size ≤ gb135)); have n3_ := Cs.am ((by rw [hg]; exact (Cs.bz (by repeat (first | (with_reducible first | exact HB.out | apply Cs.ba | apply Cs.bn | apply Cs.bd) | exact HB.out))) : w.heap.size ≤ gb135)); clear HB; have HB := n0_; have BK135 := n1_; have GW135 := n2_; have GE135 := n3_; clear n0_ n1_ n2_ n3_; clear hb hbox hg; obtain ⟨hcz12_0, hcz12_1, hcz12_2⟩ := Cs.cs3 BK135.out; obtain ⟨hfz12_0, hfz12_1⟩ := Cs.fz2 BK135.out; have hfz12_2 := blk_frozen BK135.out 2))
            go_ret
            exact ⟨by first | rfl | (simp [errW_none, errW_some] <;> rfl) | (simp [*, errW_none, errW_some] <;> rfl), by repeat (first | (with_reducible first | exact HB.out | apply Cs.ba | apply Cs.bn | apply Cs.bd | refine Cs.bs ?_ GE135.out) | exact HB.out)⟩
          · rw [if_neg c10] at H
            have c10b0 : (a0_1 == 0) = false := beq_eq_false_iff_ne.mpr c10
            have c10b1 : (a0_1 != 0) = true := bne_iff_ne.mpr c10
            obtain rfl := Option.some.inj H
            go_enter Try.func119, Try.ntmps119
            go_wp2_with (first | ((with_reducible refine gate_dst (N := 1) rfl ?_); (try (refine gate_guard (by rfl) ?_; dsimp only)); refine box_event ?hg (N := 1) ?hd (cs := #[.int .i64 a0_0, .int .i64 a0_1, .string a0_2]) (t := 23) ?hr ?_; (case hd => rfl); (case hg => rfl); (case hr => first | (go_simp; done) | (go_simp; rfl)); intro gb135 hg w13 hbox hb; have n0_ := Cs.am (Cs.bp (by repeat (first | (with_reducible first | exact HB.out | apply Cs.ba | apply Cs.bn | apply Cs.bd) | exact HB.out)) hb); have n1_ := Cs.am (hbox); have n2_ := Cs.am ((by rw [hg]; exact (Cs.bz (by repeat (first | (with_reducible first | exact HB.out | apply Cs.ba | apply Cs.bn | apply Cs.bd) | exact HB.out))) : w.heap.size ≤ gb135)); have n3_ := Cs.am ((by rw [hg]; exact (Cs.bz (by repeat (first | (with_reducible first | exact HB.out | apply Cs.ba | apply Cs.bn | apply Cs.bd) | exact HB.out))) : w.heap.size ≤ gb135)); clear HB; have HB := n0_; have BK135 := n1_; have GW135 := n2_; have GE135 := n3_; clear n0_ n1_ n2_ n3_; clear hb hbox hg; obtain ⟨hcz14_0, hcz14_1, hcz14_2⟩ := Cs.cs3 BK135.out; obtain ⟨hfz14_0, hfz14_1⟩ := Cs.fz2 BK135.out; have hfz14_2 := blk_frozen BK135.out 2))
            go_ret
            exact ⟨by first | rfl | (simp [errW_none, errW_some] <;> rfl) | (simp [*, errW_none, errW_some] <;> rfl), by repeat (first | (with_reducible first | exact HB.out | apply Cs.ba | apply Cs.bn | apply Cs.bd | refine Cs.bs ?_ GE135.out) | exact HB.out)⟩
        · rw [if_neg c9] at H
          have c9b0 : (a0_2.toList == ([] : List UInt8)) = false := beq_eq_false_iff_ne.mpr c9
          have c9b1 : (a0_2.toList != ([] : List UInt8)) = true := bne_iff_ne.mpr c9
          obtain rfl := Option.some.inj H
          go_enter Try.func119, Try.ntmps119
          go_wp2_with (first | ((with_reducible refine gate_dst (N := 1) rfl ?_); (try (refine gate_guard (by rfl) ?_; dsimp only)); refine box_event ?hg (N := 1) ?hd (cs := #[.int .i64 a0_0, .int .i64 a0_1, .string a0_2]) (t := 23) ?hr ?_; (case hd => rfl); (case hg => rfl); (case hr => first | (go_simp; done) | (go_simp; rfl)); intro gb135 hg w15 hbox hb; have n0_ := Cs.am (Cs.bp (by repeat (first | (with_reducible first | exact HB.out | apply Cs.ba | apply Cs.bn | apply Cs.bd) | exact HB.out)) hb); have n1_ := Cs.am (hbox); have n2_ := Cs.am ((by rw [hg]; exact (Cs.bz (by repeat (first | (with_reducible first | exact HB.out | apply Cs.ba | apply Cs.bn | apply Cs.bd) | exact HB.out))) : w.heap.size ≤ gb135)); have n3_ := Cs.am ((by rw [hg]; exact (Cs.bz (by repeat (first | (with_reducible first | exact HB.out | apply Cs.ba | apply Cs.bn | apply Cs.bd) | exact HB.out))) : w.heap.size ≤ gb135)); clear HB; have HB := n0_; have BK135 := n1_; have GW135 := n2_; have GE135 := n3_; clear n0_ n1_ n2_ n3_; clear hb hbox hg; obtain ⟨hcz16_0, hcz16_1, hcz16_2⟩ := Cs.cs3 BK135.out; obtain ⟨hfz16_0, hfz16_1⟩ := Cs.fz2 BK135.out; have hfz16_2 := blk_frozen BK135.out 2))
          go_ret
          exact ⟨by first | rfl | (simp [errW_none, errW_some] <;> rfl) | (simp [*, errW_none, errW_some] <;> rfl), by repeat (first | (with_reducible first | exact HB.out | apply Cs.ba | apply Cs.bn | apply Cs.bd | refine Cs.bs ?_ GE135.out) | exact HB.out)⟩
      · rw [if_neg c8] at H
        have c8b0 : (a0_0 == 2) = false := beq_eq_false_iff_ne.mpr c8
        have c8b1 : (a0_0 != 2) = true := bne_iff_ne.mpr c8
        by_cases c17 : a0_0 = 3
        · rw [if_pos c17] at H
          have c17b0 : (a0_0 == 3) = true := beq_iff_eq.mpr c17
          have c17b1 : (a0_0 != 3) = false := bne_eq_false_iff_eq.mpr c17
          clear c17
          by_cases c18 : a0_1 = 0
          · rw [if_pos c18] at H
            have c18b0 : (a0_1 == 0) = true := beq_iff_eq.mpr c18
            have c18b1 : (a0_1 != 0) = false := bne_eq_false_iff_eq.mpr c18
            clear c18
            by_cases c19 : (a0_2.size : Int) ≤ 32
            · rw [if_pos c19] at H
              have c19b0 : decide ((a0_2.size : Int) ≤ 32) = true := decide_eq_true c19
              have c19b1 : decide (a0_2.size ≤ 32) = true := decide_eq_true (by omega)
              clear c19
              replace H := Option.bind_eq_some_iff.mp H
              obtain ⟨t136, A200, H⟩ := H
              replace H : (some t136) = some r := H
              have A20 := Cs.am A200
              clear A200
              obtain rfl := Option.some.inj H
              go_enter Try.func119, Try.ntmps119
              go_wp2_with (first | ((with_reducible refine gate_dst (N := 1) rfl ?_); (try (refine gate_guard (by rfl) ?_; dsimp only)); refine box_event ?hg (N := 1) ?hd (cs := #[.int .i64 a0_0, .int .i64 a0_1, .string a0_2]) (t := 23) ?hr ?_; (case hd => rfl); (case hg => rfl); (case hr => first | (go_simp; done) | (go_simp; rfl)); intro gb135 hg w21 hbox hb; have n0_ := Cs.am (Cs.bp (by repeat (first | (with_reducible first | exact HB.out | apply Cs.ba | apply Cs.bn | apply Cs.bd) | exact HB.out)) hb); have n1_ := Cs.am (hbox); have n2_ := Cs.am ((by rw [hg]; exact (Cs.bz (by repeat (first | (with_reducible first | exact HB.out | apply Cs.ba | apply Cs.bn | apply Cs.bd) | exact HB.out))) : w.heap.size ≤ gb135)); have n3_ := Cs.am ((by rw [hg]; exact (Cs.bz (by repeat (first | (with_reducible first | exact HB.out | apply Cs.ba | apply Cs.bn | apply Cs.bd) | exact HB.out))) : w.heap.size ≤ gb135)); clear HB; have HB := n0_; have BK135 := n1_; have GW135 := n2_; have GE135 := n3_; clear n0_ n1_ n2_ n3_; clear hb hbox hg; obtain ⟨hcz22_0, hcz22_1, hcz22_2⟩ := Cs.cs3 BK135.out; obtain ⟨hfz22_0, hfz22_1⟩ := Cs.fz2 BK135.out; have hfz22_2 := blk_frozen BK135.out 2) | (go_at_call 143; (with_reducible refine (value_plain.calls k a0_2 t136 _ A20.out).mono ?_); rintro e w' ⟨rfl, ⟨nd, rfl⟩⟩))
              go_ret
              exact ⟨by first | rfl | (simp [errW_none, errW_some] <;> rfl) | (simp [*, errW_none, errW_some] <;> rfl), by repeat (first | (with_reducible first | exact HB.out | apply Cs.ba | apply Cs.bn | apply Cs.bd | refine Cs.bs ?_ GE135.out) | exact HB.out)⟩
            · rw [if_neg c19] at H
              have c19b0 : decide ((a0_2.size : Int) ≤ 32) = false := decide_eq_false c19
              have c19b1 : decide (a0_2.size ≤ 32) = false := decide_eq_false (by omega)
              clear c19
              obtain rfl := Option.some.inj H
              go_enter Try.func119, Try.ntmps119
              go_wp2_with (first | ((with_reducible refine gate_dst (N := 1) rfl ?_); (try (refine gate_guard (by rfl) ?_; dsimp only)); refine box_event ?hg (N := 1) ?hd (cs := #[.int .i64 a0_0, .int .i64 a0_1, .string a0_2]) (t := 23) ?hr ?_; (case hd => rfl); (case hg => rfl); (case hr => first | (go_simp; done) | (go_simp; rfl)); intro gb135 hg w23 hbox hb; have n0_ := Cs.am (Cs.bp (by repeat (first | (with_reducible first | exact HB.out | apply Cs.ba | apply Cs.bn | apply Cs.bd) | exact HB.out)) hb); have n1_ := Cs.am (hbox); have n2_ := Cs.am ((by rw [hg]; exact (Cs.bz (by repeat (first | (with_reducible first | exact HB.out | apply Cs.ba | apply Cs.bn | apply Cs.bd) | exact HB.out))) : w.heap.size ≤ gb135)); have n3_ := Cs.am ((by rw [hg]; exact (Cs.bz (by repeat (first | (with_reducible first | exact HB.out | apply Cs.ba | apply Cs.bn | apply Cs.bd) | exact HB.out))) : w.heap.size ≤ gb135)); clear HB; have HB := n0_; have BK135 := n1_; have GW135 := n2_; have GE135 := n3_; clear n0_ n1_ n2_ n3_; clear hb hbox hg; obtain ⟨hcz24_0, hcz24_1, hcz24_2⟩ := Cs.cs3 BK135.out; obtain ⟨hfz24_0, hfz24_1⟩ := Cs.fz2 BK135.out; have hfz24_2 := blk_frozen BK135.out 2))
              go_ret
              exact ⟨by first | rfl | (simp [errW_none, errW_some] <;> rfl) | (simp [*, errW_none, errW_some] <;> rfl), by repeat (first | (with_reducible first | exact HB.out | apply Cs.ba | apply Cs.bn | apply Cs.bd | refine Cs.bs ?_ GE135.out) | exact HB.out)⟩
          · rw [if_neg c18] at H
            have c18b0 : (a0_1 == 0) = false := beq_eq_false_iff_ne.mpr c18
            have c18b1 : (a0_1 != 0) = true := bne_iff_ne.mpr c18
            obtain rfl := Option.some.inj H
            go_enter Try.func119, Try.ntmps119
            go_wp2_with (first | ((with_reducible refine gate_dst (N := 1) rfl ?_); (try (refine gate_guard (by rfl) ?_; dsimp only)); refine box_event ?hg (N := 1) ?hd (cs := #[.int .i64 a0_0, .int .i64 a0_1, .string a0_2]) (t := 23) ?hr ?_; (case hd => rfl); (case hg => rfl); (case hr => first | (go_simp; done) | (go_simp; rfl)); intro gb135 hg w25 hbox hb; have n0_ := Cs.am (Cs.bp (by repeat (first | (with_reducible first | exact HB.out | apply Cs.ba | apply Cs.bn | apply Cs.bd) | exact HB.out)) hb); have n1_ := Cs.am (hbox); have n2_ := Cs.am ((by rw [hg]; exact (Cs.bz (by repeat (first | (with_reducible first | exact HB.out | apply Cs.ba | apply Cs.bn | apply Cs.bd) | exact HB.out))) : w.heap.size ≤ gb135)); have n3_ := Cs.am ((by rw [hg]; exact (Cs.bz (by repeat (first | (with_reducible first | exact HB.out | apply Cs.ba | apply Cs.bn | apply Cs.bd) | exact HB.out))) : w.heap.size ≤ gb135)); clear HB; have HB := n0_; have BK135 := n1_; have GW135 := n2_; have GE135 := n3_; clear n0_ n1_ n2_ n3_; clear hb hbox hg; obtain ⟨hcz26_0, hcz26_1, hcz26_2⟩ := Cs.cs3 BK135.out; obtain ⟨hfz26_0, hfz26_1⟩ := Cs.fz2 BK135.out; have hfz26_2 := blk_frozen BK135.out 2))
            go_ret
            exact ⟨by first | rfl | (simp [errW_none, errW_some] <;> rfl) | (simp [*, errW_none, errW_some] <;> rfl), by repeat (first | (with_reducible first | exact HB.out | apply Cs.ba | apply Cs.bn | apply Cs.bd | refine Cs.bs ?_ GE135.out) | exact HB.out)⟩
        · rw [if_neg c17] at H
          have c17b0 : (a0_0 == 3) = false := beq_eq_false_iff_ne.mpr c17
          have c17b1 : (a0_0 != 3) = true := bne_iff_ne.mpr c17
          obtain rfl := Option.some.inj H
          go_enter Try.func119, Try.ntmps119
          go_wp2_with (first | ((with_reducible refine gate_dst (N := 1) rfl ?_); (try (refine gate_guard (by rfl) ?_; dsimp only)); refine box_event ?hg (N := 1) ?hd (cs := #[.int .i64 a0_0, .int .i64 a0_1, .string a0_2]) (t := 23) ?hr ?_; (case hd => rfl); (case hg => rfl); (case hr => first | (go_simp; done) | (go_simp; rfl)); intro gb135 hg w27 hbox hb; have n0_ := Cs.am (Cs.bp (by repeat (first | (with_reducible first | exact HB.out | apply Cs.ba | apply Cs.bn | apply Cs.bd) | exact HB.out)) hb); have n1_ := Cs.am (hbox); have n2_ := Cs.am ((by rw [hg]; exact (Cs.bz (by repeat (first | (with_reducible first | exact HB.out | apply Cs.ba | apply Cs.bn | apply Cs.bd) | exact HB.out))) : w.heap.size ≤ gb135)); have n3_ := Cs.am ((by rw [hg]; exact (Cs.bz (by repeat (first | (with_reducible first | exact HB.out | apply Cs.ba | apply Cs.bn | apply Cs.bd) | exact HB.out))) : w.heap.size ≤ gb135)); clear HB; have HB := n0_; have BK135 := n1_; have GW135 := n2_; have GE135 := n3_; clear n0_ n1_ n2_ n3_; clear hb hbox hg; obtain ⟨hcz28_0, hcz28_1, hcz28_2⟩ := Cs.cs3 BK135.out; obtain ⟨hfz28_0, hfz28_1⟩ := Cs.fz2 BK135.out; have hfz28_2 := blk_frozen BK135.out 2))
          go_ret
          exact ⟨by first | rfl | (simp [errW_none, errW_some] <;> rfl) | (simp [*, errW_none, errW_some] <;> rfl), by repeat (first | (with_reducible first | exact HB.out | apply Cs.ba | apply Cs.bn | apply Cs.bd | refine Cs.bs ?_ GE135.out) | exact HB.out)⟩

/-! ### expr_bare: function 132 -/
def expr_bare.f (a0_0 : Int) (a0_1 : Int) (a0_2 : Int) (a0_3 : Int) (a0_4 : ByteArray) (a0_5 : ByteArray) (l0_6 : List (S26)) (a1 : Bool) (a2 : Bool) (a3 : Bool) : Option (Bool) := if a1 = true then (if a2 = true then (if a3 = true then (some true) else (some (a0_5.toList == ([] : List UInt8)))) else (if (a0_2 == 0 && (a0_3 == 0 && (a0_4.toList == ([] : List UInt8)))) = true then (if a3 = true then (some true) else (some (a0_5.toList == ([] : List UInt8)))) else (some false))) else (if a0_1 = 0 then (if a2 = true then (if a3 = true then (some true) else (some (a0_5.toList == ([] : List UInt8)))) else (if (a0_2 == 0 && (a0_3 == 0 && (a0_4.toList == ([] : List UInt8)))) = true then (if a3 = true then (some true) else (some (a0_5.toList == ([] : List UInt8)))) else (some false))) else (some false))
set_option maxHeartbeats 8000000 in
set_option maxRecDepth 100000 in
theorem expr_bare.calls (a0_0 : Int) (a0_1 : Int) (a0_2 : Int) (a0_3 : Int) (a0_4 : ByteArray) (a0_5 : ByteArray) (A0_6 : Option Addr) (c0_6 : Nat) (l0_6 : List (S26)) (a1 : Bool) (a2 : Bool) (a3 : Bool) (r : Bool) (w : World) (hr0_6 : Kd.C k26 w A0_6 l0_6.length l0_6) (hc0_6 : l0_6.length ≤ c0_6) (h : expr_bare.f a0_0 a0_1 a0_2 a0_3 a0_4 a0_5 l0_6 a1 a2 a3 = some r) :
    Calls Try.prog 132 #[.agg #[.int .i64 a0_0, .int .i64 a0_1, .int .i64 a0_2, .int .i64 a0_3, .string a0_4, .string a0_5, .slice A0_6 l0_6.length c0_6], .bool a1, .bool a2, .bool a3] w fun e w' => e = .returned (.bool r) ∧ Below w.heap.size w w' := by
  have hu26 := Try.underlying26
  have hu23 := Try.underlying23
  have HR0_6 := Cs.am hr0_6
  have HC0_6 := Cs.am hc0_6
  clear hr0_6 hc0_6
  have HB := Cs.am (Below.refl w.heap.size w)
  have H : (if a1 = true then (if a2 = true then (if a3 = true then (some true) else (some (a0_5.toList == ([] : List UInt8)))) else (if (a0_2 == 0 && (a0_3 == 0 && (a0_4.toList == ([] : List UInt8)))) = true then (if a3 = true then (some true) else (some (a0_5.toList == ([] : List UInt8)))) else (some false))) else (if a0_1 = 0 then (if a2 = true then (if a3 = true then (some true) else (some (a0_5.toList == ([] : List UInt8)))) else (if (a0_2 == 0 && (a0_3 == 0 && (a0_4.toList == ([] : List UInt8)))) = true then (if a3 = true then (some true) else (some (a0_5.toList == ([] : List UInt8)))) else (some false))) else (some false))) = some r := h
  clear h
  by_cases c5 : a1 = true
  · subst c5
    have H1 : (if a2 = true then (if a3 = true then (some true) else (some (a0_5.toList == ([] : List UInt8)))) else (if (a0_2 == 0 && (a0_3 == 0 && (a0_4.toList == ([] : List UInt8)))) = true then (if a3 = true then (some true) else (some (a0_5.toList == ([] : List UInt8)))) else (some false))) = some r := by rw [if_pos rfl] at H; exact H
    clear H
    have H := H1
    clear H1
    by_cases c6 : a2 = true
    · subst c6
      have H1 : (if a3 = true then (some true) else (some (a0_5.toList == ([] : List UInt8)))) = some r := by rw [if_pos rfl] at H; exact H
      clear H
      have H := H1
      clear H1
      by_cases c7 : a3 = true
      · subst c7
        have H1 : (some true) = some r := by rw [if_pos rfl] at H; exact H
        clear H
        have H := H1
        clear H1
        obtain rfl := Option.some.inj H
        go_enter Try.func132, Try.ntmps132
        go_wp2_with (first | ((with_reducible refine gate_dst (N := 4) rfl ?_); refine box_event ?hg (N := 4) ?hd (cs := #[.int .i64 a0_0, .int .i64 a0_1, .int .i64 a0_2, .int .i64 a0_3, .string a0_4, .string a0_5, .slice A0_6 l0_6.length c0_6]) (t := 26) ?hr ?_; (case hd => rfl); (case hg => rfl); (case hr => first | (go_simp; done) | (go_simp; rfl)); intro gb137 hg w8 hbox hb; have n0_ := Cs.am (Cs.bp (by repeat (first | (with_reducible first | exact HB.out | apply Cs.ba | apply Cs.bn | apply Cs.bd) | exact HB.out)) hb); have n1_ := Cs.am (hbox); have n2_ := Cs.am ((by rw [hg]; exact (Cs.bz (by repeat (first | (with_reducible first | exact HB.out | apply Cs.ba | apply Cs.bn | apply Cs.bd) | exact HB.out))) : w.heap.size ≤ gb137)); have n3_ := Cs.am ((by rw [hg]; exact (Cs.bz (by repeat (first | (with_reducible first | exact HB.out | apply Cs.ba | apply Cs.bn | apply Cs.bd) | exact HB.out))) : w.heap.size ≤ gb137)); clear HB; have HB := n0_; have BK137 := n1_; have GW137 := n2_; have GE137 := n3_; clear n0_ n1_ n2_ n3_; clear hb hbox hg))
        go_ret
        exact ⟨by first | rfl | (simp [errW_none, errW_some] <;> rfl) | (simp [*, errW_none, errW_some] <;> rfl), by repeat (first | (with_reducible first | exact HB.out | apply Cs.ba | apply Cs.bn | apply Cs.bd | refine Cs.bs ?_ GE137.out) | exact HB.out)⟩
      · replace c7 := Bool.eq_false_iff.mpr c7
        subst c7
        have H1 : (some (a0_5.toList == ([] : List UInt8))) = some r := by rw [if_neg (show ¬ (false = true) by decide)] at H; exact H
        clear H
        have H := H1
        clear H1
        obtain rfl := Option.some.inj H
        go_enter Try.func132, Try.ntmps132
        go_wp2_with (first | ((with_reducible refine gate_dst (N := 4) rfl ?_); refine box_event ?hg (N := 4) ?hd (cs := #[.int .i64 a0_0, .int .i64 a0_1, .int .i64 a0_2, .int .i64 a0_3, .string a0_4, .string a0_5, .slice A0_6 l0_6.length c0_6]) (t := 26) ?hr ?_; (case hd => rfl); (case hg => rfl); (case hr => first | (go_simp; done) | (go_simp; rfl)); intro gb137 hg w9 hbox hb; have n0_ := Cs.am (Cs.bp (by repeat (first | (with_reducible first | exact HB.out | apply Cs.ba | apply Cs.bn | apply Cs.bd) | exact HB.out)) hb); have n1_ := Cs.am (hbox); have n2_ := Cs.am ((by rw [hg]; exact (Cs.bz (by repeat (first | (with_reducible first | exact HB.out | apply Cs.ba | apply Cs.bn | apply Cs.bd) | exact HB.out))) : w.heap.size ≤ gb137)); have n3_ := Cs.am ((by rw [hg]; exact (Cs.bz (by repeat (first | (with_reducible first | exact HB.out | apply Cs.ba | apply Cs.bn | apply Cs.bd) | exact HB.out))) : w.heap.size ≤ gb137)); clear HB; have HB := n0_; have BK137 := n1_; have GW137 := n2_; have GE137 := n3_; clear n0_ n1_ n2_ n3_; clear hb hbox hg; obtain ⟨hcz10_0, hcz10_1, hcz10_2, hcz10_3, hcz10_4, hcz10_5, hcz10_6⟩ := Cs.cs7 BK137.out; obtain ⟨hfz10_0, hfz10_1, hfz10_2, hfz10_3, hfz10_4, hfz10_5⟩ := Cs.fz6 BK137.out; have hfz10_6 := blk_frozen BK137.out 6))
        go_ret
        exact ⟨by first | rfl | (simp [errW_none, errW_some] <;> rfl) | (simp [*, errW_none, errW_some] <;> rfl), by repeat (first | (with_reducible first | exact HB.out | apply Cs.ba | apply Cs.bn | apply Cs.bd | refine Cs.bs ?_ GE137.out) | exact HB.out)⟩
    · replace c6 := Bool.eq_false_iff.mpr c6
      subst c6
      have H1 : (if (a0_2 == 0 && (a0_3 == 0 && (a0_4.toList == ([] : List UInt8)))) = true then (if a3 = true then (some true) else (some (a0_5.toList == ([] : List UInt8)))) else (some false)) = some r := by rw [if_neg (show ¬ (false = true) by decide)] at H; exact H
      clear H
      have H := H1
      clear H1
      by_cases c11 : (a0_2 == 0 && (a0_3 == 0 && (a0_4.toList == ([] : List UInt8)))) = true
      · rw [if_pos c11] at H
        have c11b0 : (a0_2 == 0 && (a0_3 == 0 && (a0_4.toList == ([] : List UInt8)))) = true := c11
        (try (have c11b9 : (a0_2 == 0 && (a0_3 == 0 && a0_4.toList.isEmpty)) = true := by simpa using c11b0))
        (try (have c11b1 : decide (a0_2 = 0 && (a0_3 == 0 && (a0_4.toList == ([] : List UInt8)))) = true := by simpa using c11))
        (try (have c11b2 : (a0_2 == 0 && (a0_3 == 0 && (a0_4.toList == ([] : List UInt8)))) = true := by simpa using c11))
        clear c11
        by_cases c12 : a3 = true
        · subst c12
          have H1 : (some true) = some r := by rw [if_pos rfl] at H; exact H
          clear H
          have H := H1
          clear H1
          obtain rfl := Option.some.inj H
          go_enter Try.func132, Try.ntmps132
          go_wp2_with (first | ((with_reducible refine gate_dst (N := 4) rfl ?_); refine box_event ?hg (N := 4) ?hd (cs := #[.int .i64 a0_0, .int .i64 a0_1, .int .i64 a0_2, .int .i64 a0_3, .string a0_4, .string a0_5, .slice A0_6 l0_6.length c0_6]) (t := 26) ?hr ?_; (case hd => rfl); (case hg => rfl); (case hr => first | (go_simp; done) | (go_simp; rfl)); intro gb137 hg w13 hbox hb; have n0_ := Cs.am (Cs.bp (by repeat (first | (with_reducible first | exact HB.out | apply Cs.ba | apply Cs.bn | apply Cs.bd) | exact HB.out)) hb); have n1_ := Cs.am (hbox); have n2_ := Cs.am ((by rw [hg]; exact (Cs.bz (by repeat (first | (with_reducible first | exact HB.out | apply Cs.ba | apply Cs.bn | apply Cs.bd) | exact HB.out))) : w.heap.size ≤ gb137)); have n3_ := Cs.am ((by rw [hg]; exact (Cs.bz (by repeat (first | (with_reducible first | exact HB.out | apply Cs.ba | apply Cs.bn | apply Cs.bd) | exact HB.out))) : w.heap.size ≤ gb137)); clear HB; have HB := n0_; have BK137 := n1_; have GW137 := n2_; have GE137 := n3_; clear n0_ n1_ n2_ n3_; clear hb hbox hg; obtain ⟨hcz14_0, hcz14_1, hcz14_2, hcz14_3, hcz14_4, hcz14_5, hcz14_6⟩ := Cs.cs7 BK137.out; obtain ⟨hfz14_0, hfz14_1, hfz14_2, hfz14_3, hfz14_4, hfz14_5⟩ := Cs.fz6 BK137.out; have hfz14_6 := blk_frozen BK137.out 6))
          go_ret
          exact ⟨by first | rfl | (simp [errW_none, errW_some] <;> rfl) | (simp [*, errW_none, errW_some] <;> rfl), by repeat (first | (with_reducible first | exact HB.out | apply Cs.ba | apply Cs.bn | apply Cs.bd | refine Cs.bs ?_ GE137.out) | exact HB.out)⟩
        · replace c12 := Bool.eq_false_iff.mpr c12
          subst c12
          have H1 : (some (a0_5.toList == ([] : List UInt8))) = some r := by rw [if_neg (show ¬ (false = true) by decide)] at H; exact H
          clear H
          have H := H1
          clear H1
          obtain rfl := Option.some.inj H
          go_enter Try.func132, Try.ntmps132
          go_wp2_with (first | ((with_reducible refine gate_dst (N := 4) rfl ?_); refine box_event ?hg (N := 4) ?hd (cs := #[.int .i64 a0_0, .int .i64 a0_1, .int .i64 a0_2, .int .i64 a0_3, .string a0_4, .string a0_5, .slice A0_6 l0_6.length c0_6]) (t := 26) ?hr ?_; (case hd => rfl); (case hg => rfl); (case hr => first | (go_simp; done) | (go_simp; rfl)); intro gb137 hg w15 hbox hb; have n0_ := Cs.am (Cs.bp (by repeat (first | (with_reducible first | exact HB.out | apply Cs.ba | apply Cs.bn | apply Cs.bd) | exact HB.out)) hb); have n1_ := Cs.am (hbox); have n2_ := Cs.am ((by rw [hg]; exact (Cs.bz (by repeat (first | (with_reducible first | exact HB.out | apply Cs.ba | apply Cs.bn | apply Cs.bd) | exact HB.out))) : w.heap.size ≤ gb137)); have n3_ := Cs.am ((by rw [hg]; exact (Cs.bz (by repeat (first | (with_reducible first | exact HB.out | apply Cs.ba | apply Cs.bn | apply Cs.bd) | exact HB.out))) : w.heap.size ≤ gb137)); clear HB; have HB := n0_; have BK137 := n1_; have GW137 := n2_; have GE137 := n3_; clear n0_ n1_ n2_ n3_; clear hb hbox hg; obtain ⟨hcz16_0, hcz16_1, hcz16_2, hcz16_3, hcz16_4, hcz16_5, hcz16_6⟩ := Cs.cs7 BK137.out; obtain ⟨hfz16_0, hfz16_1, hfz16_2, hfz16_3, hfz16_4, hfz16_5⟩ := Cs.fz6 BK137.out; have hfz16_6 := blk_frozen BK137.out 6))
          go_ret
          exact ⟨by first | rfl | (simp [errW_none, errW_some] <;> rfl) | (simp [*, errW_none, errW_some] <;> rfl), by repeat (first | (with_reducible first | exact HB.out | apply Cs.ba | apply Cs.bn | apply Cs.bd | refine Cs.bs ?_ GE137.out) | exact HB.out)⟩
      · rw [if_neg c11] at H
        have c11b0 : (a0_2 == 0 && (a0_3 == 0 && (a0_4.toList == ([] : List UInt8)))) = false := by simpa using c11
        (try (have c11b9 : (a0_2 == 0 && (a0_3 == 0 && a0_4.toList.isEmpty)) = false := by simpa using c11b0))
        (try (have c11b1 : decide (a0_2 = 0 && (a0_3 == 0 && (a0_4.toList == ([] : List UInt8)))) = false := by simpa using c11))
        (try (have c11b2 : (a0_2 == 0 && (a0_3 == 0 && (a0_4.toList == ([] : List UInt8)))) = false := by simpa using c11))
        (try (have c11b3 : ¬ (a0_2 = 0 && (a0_3 == 0 && (a0_4.toList == ([] : List UInt8)))) := by simpa using c11))
        clear c11
        obtain rfl := Option.some.inj H
        go_enter Try.func132, Try.ntmps132
        go_wp2_with (first | ((with_reducible refine gate_dst (N := 4) rfl ?_); refine box_event ?hg (N := 4) ?hd (cs := #[.int .i64 a0_0, .int .i64 a0_1, .int .i64 a0_2, .int .i64 a0_3, .string a0_4, .string a0_5, .slice A0_6 l0_6.length c0_6]) (t := 26) ?hr ?_; (case hd => rfl); (case hg => rfl); (case hr => first | (go_simp; done) | (go_simp; rfl)); intro gb137 hg w17 hbox hb; have n0_ := Cs.am (Cs.bp (by repeat (first | (with_reducible first | exact HB.out | apply Cs.ba | apply Cs.bn | apply Cs.bd) | exact HB.out)) hb); have n1_ := Cs.am (hbox); have n2_ := Cs.am ((by rw [hg]; exact (Cs.bz (by repeat (first | (with_reducible first | exact HB.out | apply Cs.ba | apply Cs.bn | apply Cs.bd) | exact HB.out))) : w.heap.size ≤ gb137)); have n3_ := Cs.am ((by rw [hg]; exact (Cs.bz (by repeat (first | (with_reducible first | exact HB.out | apply Cs.ba | apply Cs.bn | apply Cs.bd) | exact HB.out))) : w.heap.size ≤ gb137)); clear HB; have HB := n0_; have BK137 := n1_; have GW137 := n2_; have GE137 := n3_; clear n0_ n1_ n2_ n3_; clear hb hbox hg; obtain ⟨hcz18_0, hcz18_1, hcz18_2, hcz18_3, hcz18_4, hcz18_5, hcz18_6⟩ := Cs.cs7 BK137.out; obtain ⟨hfz18_0, hfz18_1, hfz18_2, hfz18_3, hfz18_4, hfz18_5⟩ := Cs.fz6 BK137.out; have hfz18_6 := blk_frozen BK137.out 6))
        go_ret
        exact ⟨by first | rfl | (simp [errW_none, errW_some] <;> rfl) | (simp [*, errW_none, errW_some] <;> rfl), by repeat (first | (with_reducible first | exact HB.out | apply Cs.ba | apply Cs.bn | apply Cs.bd | refine Cs.bs ?_ GE137.out) | exact HB.out)⟩
  · replace c5 := Bool.eq_false_iff.mpr c5
    subst c5
    have H1 : (if a0_1 = 0 then (if a2 = true then (if a3 = true then (some true) else (some (a0_5.toList == ([] : List UInt8)))) else (if (a0_2 == 0 && (a0_3 == 0 && (a0_4.toList == ([] : List UInt8)))) = true then (if a3 = true then (some true) else (some (a0_5.toList == ([] : List UInt8)))) else (some false))) else (some false)) = some r := by rw [if_neg (show ¬ (false = true) by decide)] at H; exact H
    clear H
    have H := H1
    clear H1
    by_cases c19 : a0_1 = 0
    · rw [if_pos c19] at H
      have c19b0 : (a0_1 == 0) = true := beq_iff_eq.mpr c19
      have c19b1 : (a0_1 != 0) = false := bne_eq_false_iff_eq.mpr c19
      clear c19
      by_cases c20 : a2 = true
      · subst c20
        have H1 : (if a3 = true then (some true) else (some (a0_5.toList == ([] : List UInt8)))) = some r := by rw [if_pos rfl] at H; exact H
        clear H
        have H := H1
        clear H1
        by_cases c21 : a3 = true
        · subst c21
          have H1 : (some true) = some r := by rw [if_pos rfl] at H; exact H
          clear H
          have H := H1
          clear H1
          obtain rfl := Option.some.inj H
          go_enter Try.func132, Try.ntmps132
          go_wp2_with (first | ((with_reducible refine gate_dst (N := 4) rfl ?_); refine box_event ?hg (N := 4) ?hd (cs := #[.int .i64 a0_0, .int .i64 a0_1, .int .i64 a0_2, .int .i64 a0_3, .string a0_4, .string a0_5, .slice A0_6 l0_6.length c0_6]) (t := 26) ?hr ?_; (case hd => rfl); (case hg => rfl); (case hr => first | (go_simp; done) | (go_simp; rfl)); intro gb137 hg w22 hbox hb; have n0_ := Cs.am (Cs.bp (by repeat (first | (with_reducible first | exact HB.out | apply Cs.ba | apply Cs.bn | apply Cs.bd) | exact HB.out)) hb); have n1_ := Cs.am (hbox); have n2_ := Cs.am ((by rw [hg]; exact (Cs.bz (by repeat (first | (with_reducible first | exact HB.out | apply Cs.ba | apply Cs.bn | apply Cs.bd) | exact HB.out))) : w.heap.size ≤ gb137)); have n3_ := Cs.am ((by rw [hg]; exact (Cs.bz (by repeat (first | (with_reducible first | exact HB.out | apply Cs.ba | apply Cs.bn | apply Cs.bd) | exact HB.out))) : w.heap.size ≤ gb137)); clear HB; have HB := n0_; have BK137 := n1_; have GW137 := n2_; have GE137 := n3_; clear n0_ n1_ n2_ n3_; clear hb hbox hg; obtain ⟨hcz23_0, hcz23_1, hcz23_2, hcz23_3, hcz23_4, hcz23_5, hcz23_6⟩ := Cs.cs7 BK137.out; obtain ⟨hfz23_0, hfz23_1, hfz23_2, hfz23_3, hfz23_4, hfz23_5⟩ := Cs.fz6 BK137.out; have hfz23_6 := blk_frozen BK137.out 6))
          go_ret
          exact ⟨by first | rfl | (simp [errW_none, errW_some] <;> rfl) | (simp [*, errW_none, errW_some] <;> rfl), by repeat (first | (with_reducible first | exact HB.out | apply Cs.ba | apply Cs.bn | apply Cs.bd | refine Cs.bs ?_ GE137.out) | exact HB.out)⟩
        · replace c21 := Bool.eq_false_iff.mpr c21
          subst c21
          have H1 : (some (a0_5.toList == ([] : List UInt8))) = some r := by rw [if_neg (show ¬ (false = true) by decide)] at H; exact H
          clear H
          have H := H1
          clear H1
          obtain rfl := Option.some.inj H
          go_enter Try.func132, Try.ntmps132
          go_wp2_with (first | ((with_reducible refine gate_dst (N := 4) rfl ?_); refine box_event ?hg (N := 4) ?hd (cs := #[.int .i64 a0_0, .int .i64 a0_1, .int .i64 a0_2, .int .i64 a0_3, .string a0_4, .string a0_5, .slice A0_6 l0_6.length c0_6]) (t := 26) ?hr ?_; (case hd => rfl); (case hg => rfl); (case hr => first | (go_simp; done) | (go_simp; rfl)); intro gb137 hg w24 hbox hb; have n0_ := Cs.am (Cs.bp (by repeat (first | (with_reducible first | exact HB.out | apply Cs.ba | apply Cs.bn | apply Cs.bd) | exact HB.out)) hb); have n1_ := Cs.am (hbox); have n2_ := Cs.am ((by rw [hg]; exact (Cs.bz (by repeat (first | (with_reducible first | exact HB.out | apply Cs.ba | apply Cs.bn | apply Cs.bd) | exact HB.out))) : w.heap.size ≤ gb137)); have n3_ := Cs.am ((by rw [hg]; exact (Cs.bz (by repeat (first | (with_reducible first | exact HB.out | apply Cs.ba | apply Cs.bn | apply Cs.bd) | exact HB.out))) : w.heap.size ≤ gb137)); clear HB; have HB := n0_; have BK137 := n1_; have GW137 := n2_; have GE137 := n3_; clear n0_ n1_ n2_ n3_; clear hb hbox hg; obtain ⟨hcz25_0, hcz25_1, hcz25_2, hcz25_3, hcz25_4, hcz25_5, hcz25_6⟩ := Cs.cs7 BK137.out; obtain ⟨hfz25_0, hfz25_1, hfz25_2, hfz25_3, hfz25_4, hfz25_5⟩ := Cs.fz6 BK137.out; have hfz25_6 := blk_frozen BK137.out 6))
          go_ret
          exact ⟨by first | rfl | (simp [errW_none, errW_some] <;> rfl) | (simp [*, errW_none, errW_some] <;> rfl), by repeat (first | (with_reducible first | exact HB.out | apply Cs.ba | apply Cs.bn | apply Cs.bd | refine Cs.bs ?_ GE137.out) | exact HB.out)⟩
      · replace c20 := Bool.eq_false_iff.mpr c20
        subst c20
        have H1 : (if (a0_2 == 0 && (a0_3 == 0 && (a0_4.toList == ([] : List UInt8)))) = true then (if a3 = true then (some true) else (some (a0_5.toList == ([] : List UInt8)))) else (some false)) = some r := by rw [if_neg (show ¬ (false = true) by decide)] at H; exact H
        clear H
        have H := H1
        clear H1
        by_cases c26 : (a0_2 == 0 && (a0_3 == 0 && (a0_4.toList == ([] : List UInt8)))) = true
        · rw [if_pos c26] at H
          have c26b0 : (a0_2 == 0 && (a0_3 == 0 && (a0_4.toList == ([] : List UInt8)))) = true := c26
          (try (have c26b9 : (a0_2 == 0 && (a0_3 == 0 && a0_4.toList.isEmpty)) = true := by simpa using c26b0))
          (try (have c26b1 : decide (a0_2 = 0 && (a0_3 == 0 && (a0_4.toList == ([] : List UInt8)))) = true := by simpa using c26))
          (try (have c26b2 : (a0_2 == 0 && (a0_3 == 0 && (a0_4.toList == ([] : List UInt8)))) = true := by simpa using c26))
          clear c26
          by_cases c27 : a3 = true
          · subst c27
            have H1 : (some true) = some r := by rw [if_pos rfl] at H; exact H
            clear H
            have H := H1
            clear H1
            obtain rfl := Option.some.inj H
            go_enter Try.func132, Try.ntmps132
            go_wp2_with (first | ((with_reducible refine gate_dst (N := 4) rfl ?_); refine box_event ?hg (N := 4) ?hd (cs := #[.int .i64 a0_0, .int .i64 a0_1, .int .i64 a0_2, .int .i64 a0_3, .string a0_4, .string a0_5, .slice A0_6 l0_6.length c0_6]) (t := 26) ?hr ?_; (case hd => rfl); (case hg => rfl); (case hr => first | (go_simp; done) | (go_simp; rfl)); intro gb137 hg w28 hbox hb; have n0_ := Cs.am (Cs.bp (by repeat (first | (with_reducible first | exact HB.out | apply Cs.ba | apply Cs.bn | apply Cs.bd) | exact HB.out)) hb); have n1_ := Cs.am (hbox); have n2_ := Cs.am ((by rw [hg]; exact (Cs.bz (by repeat (first | (with_reducible first | exact HB.out | apply Cs.ba | apply Cs.bn | apply Cs.bd) | exact HB.out))) : w.heap.size ≤ gb137)); have n3_ := Cs.am ((by rw [hg]; exact (Cs.bz (by repeat (first | (with_reducible first | exact HB.out | apply Cs.ba | apply Cs.bn | apply Cs.bd) | exact HB.out))) : w.heap.size ≤ gb137)); clear HB; have HB := n0_; have BK137 := n1_; have GW137 := n2_; have GE137 := n3_; clear n0_ n1_ n2_ n3_; clear hb hbox hg; obtain ⟨hcz29_0, hcz29_1, hcz29_2, hcz29_3, hcz29_4, hcz29_5, hcz29_6⟩ := Cs.cs7 BK137.out; obtain ⟨hfz29_0, hfz29_1, hfz29_2, hfz29_3, hfz29_4, hfz29_5⟩ := Cs.fz6 BK137.out; have hfz29_6 := blk_frozen BK137.out 6))
            go_ret
            exact ⟨by first | rfl | (simp [errW_none, errW_some] <;> rfl) | (simp [*, errW_none, errW_some] <;> rfl), by repeat (first | (with_reducible first | exact HB.out | apply Cs.ba | apply Cs.bn | apply Cs.bd | refine Cs.bs ?_ GE137.out) | exact HB.out)⟩
          · replace c27 := Bool.eq_false_iff.mpr c27
            subst c27
            have H1 : (some (a0_5.toList == ([] : List UInt8))) = some r := by rw [if_neg (show ¬ (false = true) by decide)] at H; exact H
            clear H
            have H := H1
            clear H1
            obtain rfl := Option.some.inj H
            go_enter Try.func132, Try.ntmps132
            go_wp2_with (first | ((with_reducible refine gate_dst (N := 4) rfl ?_); refine box_event ?hg (N := 4) ?hd (cs := #[.int .i64 a0_0, .int .i64 a0_1, .int .i64 a0_2, .int .i64 a0_3, .string a0_4, .string a0_5, .slice A0_6 l0_6.length c0_6]) (t := 26) ?hr ?_; (case hd => rfl); (case hg => rfl); (case hr => first | (go_simp; done) | (go_simp; rfl)); intro gb137 hg w30 hbox hb; have n0_ := Cs.am (Cs.bp (by repeat (first | (with_reducible first | exact HB.out | apply Cs.ba | apply Cs.bn | apply Cs.bd) | exact HB.out)) hb); have n1_ := Cs.am (hbox); have n2_ := Cs.am ((by rw [hg]; exact (Cs.bz (by repeat (first | (with_reducible first | exact HB.out | apply Cs.ba | apply Cs.bn | apply Cs.bd) | exact HB.out))) : w.heap.size ≤ gb137)); have n3_ := Cs.am ((by rw [hg]; exact (Cs.bz (by repeat (first | (with_reducible first | exact HB.out | apply Cs.ba | apply Cs.bn | apply Cs.bd) | exact HB.out))) : w.heap.size ≤ gb137)); clear HB; have HB := n0_; have BK137 := n1_; have GW137 := n2_; have GE137 := n3_; clear n0_ n1_ n2_ n3_; clear hb hbox hg; obtain ⟨hcz31_0, hcz31_1, hcz31_2, hcz31_3, hcz31_4, hcz31_5, hcz31_6⟩ := Cs.cs7 BK137.out; obtain ⟨hfz31_0, hfz31_1, hfz31_2, hfz31_3, hfz31_4, hfz31_5⟩ := Cs.fz6 BK137.out; have hfz31_6 := blk_frozen BK137.out 6))
            go_ret
            exact ⟨by first | rfl | (simp [errW_none, errW_some] <;> rfl) | (simp [*, errW_none, errW_some] <;> rfl), by repeat (first | (with_reducible first | exact HB.out | apply Cs.ba | apply Cs.bn | apply Cs.bd | refine Cs.bs ?_ GE137.out) | exact HB.out)⟩
        · rw [if_neg c26] at H
          have c26b0 : (a0_2 == 0 && (a0_3 == 0 && (a0_4.toList == ([] : List UInt8)))) = false := by simpa using c26
          (try (have c26b9 : (a0_2 == 0 && (a0_3 == 0 && a0_4.toList.isEmpty)) = false := by simpa using c26b0))
          (try (have c26b1 : decide (a0_2 = 0 && (a0_3 == 0 && (a0_4.toList == ([] : List UInt8)))) = false := by simpa using c26))
          (try (have c26b2 : (a0_2 == 0 && (a0_3 == 0 && (a0_4.toList == ([] : List UInt8)))) = false := by simpa using c26))
          (try (have c26b3 : ¬ (a0_2 = 0 && (a0_3 == 0 && (a0_4.toList == ([] : List UInt8)))) := by simpa using c26))
          clear c26
          obtain rfl := Option.some.inj H
          go_enter Try.func132, Try.ntmps132
          go_wp2_with (first | ((with_reducible refine gate_dst (N := 4) rfl ?_); refine box_event ?hg (N := 4) ?hd (cs := #[.int .i64 a0_0, .int .i64 a0_1, .int .i64 a0_2, .int .i64 a0_3, .string a0_4, .string a0_5, .slice A0_6 l0_6.length c0_6]) (t := 26) ?hr ?_; (case hd => rfl); (case hg => rfl); (case hr => first | (go_simp; done) | (go_simp; rfl)); intro gb137 hg w32 hbox hb; have n0_ := Cs.am (Cs.bp (by repeat (first | (with_reducible first | exact HB.out | apply Cs.ba | apply Cs.bn | apply Cs.bd) | exact HB.out)) hb); have n1_ := Cs.am (hbox); have n2_ := Cs.am ((by rw [hg]; exact (Cs.bz (by repeat (first | (with_reducible first | exact HB.out | apply Cs.ba | apply Cs.bn | apply Cs.bd) | exact HB.out))) : w.heap.size ≤ gb137)); have n3_ := Cs.am ((by rw [hg]; exact (Cs.bz (by repeat (first | (with_reducible first | exact HB.out | apply Cs.ba | apply Cs.bn | apply Cs.bd) | exact HB.out))) : w.heap.size ≤ gb137)); clear HB; have HB := n0_; have BK137 := n1_; have GW137 := n2_; have GE137 := n3_; clear n0_ n1_ n2_ n3_; clear hb hbox hg; obtain ⟨hcz33_0, hcz33_1, hcz33_2, hcz33_3, hcz33_4, hcz33_5, hcz33_6⟩ := Cs.cs7 BK137.out; obtain ⟨hfz33_0, hfz33_1, hfz33_2, hfz33_3, hfz33_4, hfz33_5⟩ := Cs.fz6 BK137.out; have hfz33_6 := blk_frozen BK137.out 6))
          go_ret
          exact ⟨by first | rfl | (simp [errW_none, errW_some] <;> rfl) | (simp [*, errW_none, errW_some] <;> rfl), by repeat (first | (with_reducible first | exact HB.out | apply Cs.ba | apply Cs.bn | apply Cs.bd | refine Cs.bs ?_ GE137.out) | exact HB.out)⟩
    · rw [if_neg c19] at H
      have c19b0 : (a0_1 == 0) = false := beq_eq_false_iff_ne.mpr c19
      have c19b1 : (a0_1 != 0) = true := bne_iff_ne.mpr c19
      obtain rfl := Option.some.inj H
      go_enter Try.func132, Try.ntmps132
      go_wp2_with (first | ((with_reducible refine gate_dst (N := 4) rfl ?_); refine box_event ?hg (N := 4) ?hd (cs := #[.int .i64 a0_0, .int .i64 a0_1, .int .i64 a0_2, .int .i64 a0_3, .string a0_4, .string a0_5, .slice A0_6 l0_6.length c0_6]) (t := 26) ?hr ?_; (case hd => rfl); (case hg => rfl); (case hr => first | (go_simp; done) | (go_simp; rfl)); intro gb137 hg w34 hbox hb; have n0_ := Cs.am (Cs.bp (by repeat (first | (with_reducible first | exact HB.out | apply Cs.ba | apply Cs.bn | apply Cs.bd) | exact HB.out)) hb); have n1_ := Cs.am (hbox); have n2_ := Cs.am ((by rw [hg]; exact (Cs.bz (by repeat (first | (with_reducible first | exact HB.out | apply Cs.ba | apply Cs.bn | apply Cs.bd) | exact HB.out))) : w.heap.size ≤ gb137)); have n3_ := Cs.am ((by rw [hg]; exact (Cs.bz (by repeat (first | (with_reducible first | exact HB.out | apply Cs.ba | apply Cs.bn | apply Cs.bd) | exact HB.out))) : w.heap.size ≤ gb137)); clear HB; have HB := n0_; have BK137 := n1_; have GW137 := n2_; have GE137 := n3_; clear n0_ n1_ n2_ n3_; clear hb hbox hg; obtain ⟨hcz35_0, hcz35_1, hcz35_2, hcz35_3, hcz35_4, hcz35_5, hcz35_6⟩ := Cs.cs7 BK137.out; obtain ⟨hfz35_0, hfz35_1, hfz35_2, hfz35_3, hfz35_4, hfz35_5⟩ := Cs.fz6 BK137.out; have hfz35_6 := blk_frozen BK137.out 6))
      go_ret
      exact ⟨by first | rfl | (simp [errW_none, errW_some] <;> rfl) | (simp [*, errW_none, errW_some] <;> rfl), by repeat (first | (with_reducible first | exact HB.out | apply Cs.ba | apply Cs.bn | apply Cs.bd | refine Cs.bs ?_ GE137.out) | exact HB.out)⟩

end Go.Proofs.Ytbmgenifdlgbmaa.Q
