/- The number of a text: both readers come to one plain word; and a number comes back from its digits. -/
import Derived.Test.YtckdcaidhpjjaaaNumTimes
import Derived.Test.YtckdcaidhpjjaaaNumWorks
import Derived.Test.YtckdcaidhpjjaaaStNumDigits
import Derived.Test.YtckdcaidhpjjaaaBy
namespace Go.Proofs.Ytckdcaidhpjjaaa.Num
set_option linter.unusedVariables false
set_option linter.unusedSimpArgs false
open Go Go.RowKit Go.Proofs.Ytckdcaidhpjjaaa.Q Go.Proofs.YtckdcaidhpjjaaaW.PrintWords Go.Proofs.Ytckdcaidhpjjaaa.Aux Go.Proofs.Ytckdcaidhpjjaaa.By

theorem rdigits_f {a : Int} (ha : in64 a) : registrarref01_Digits.f a = some (strOfNums (X.digI a)) := if_pos ha
/-- are all of a list digits? -/
def digs : List Int → Bool
  | [] => true
  | c :: t => decide (48 ≤ c ∧ c ≤ 57) && digs t
/-- the number of digits, behind others -/
def val : List Int → Int → Int
  | [], n => n
  | c :: t, n => val t (n * 10 + (c - 48))
theorem val_ge (l : List Int) (h : digs l = true) : ∀ n, 0 ≤ n → n ≤ val l n := by
  induction l with
  | nil => intro n _; exact Int.le_refl _
  | cons c t ih =>
    intro n hn
    simp only [digs, Bool.and_eq_true, decide_eq_true_eq] at h
    have := ih h.2 (n * 10 + (c - 48)) (by omega)
    simp only [val]
    omega
theorem val_lt (l : List Int) (h : digs l = true) : ∀ n, 0 ≤ n → val l n < (n + 1) * 10 ^ l.length := by
  induction l with
  | nil => intro n _; simp [val]; omega
  | cons c t ih =>
    intro n hn
    simp only [digs, Bool.and_eq_true, decide_eq_true_eq] at h
    have h1 := ih h.2 (n * 10 + (c - 48)) (by omega)
    simp only [val, List.length_cons]
    have h2 : (n * 10 + (c - 48) + 1) * 10 ^ t.length ≤ ((n + 1) * 10) * 10 ^ t.length := Int.mul_le_mul_of_nonneg_right (by omega) (Int.le_of_lt (Int.pow_pos (by omega)))
    have h3 : (n + 1) * 10 ^ (t.length + 1) = ((n + 1) * 10) * 10 ^ t.length := by rw [Int.pow_succ, Int.mul_assoc, Int.mul_comm 10]
    omega
/-- the number of a text -/
def readB (below : Bool) (l : List Int) : Int × Int :=
  if l = [] ∨ l.length > 19 ∨ (l.getD 0 0 = 48 ∧ (l.length > 1 ∨ below = true)) then (0, 12) else
  if digs l = true then (if below = true then (if val l 0 ≤ 9223372036854775808 then (-(val l 0), 0) else (0, 10)) else if val l 0 ≤ 9223372036854775807 then (val l 0, 0) else (0, 10)) else (0, 12)
def readS (s : List Int) : Int × Int := if s.getD 0 0 = 45 then readB true (s.drop 1) else readB false s

theorem bt_mid {s : ByteArray} {pre suf : List Int} {c : Int} (h : B s = pre ++ c :: suf) : bt s (pre.length : Int) = c := by
  rw [bt_B, h]
  simp [List.getD_eq_getElem?_getD]
theorem size_mid {s : ByteArray} {pre suf : List Int} (h : B s = pre ++ suf) : s.size = pre.length + suf.length := by
  rw [← B_size, h, List.length_append]

/-- what stands behind the digits -/
def tail (below : Bool) (n : Int) : Int × Int := if below = true then (if n ≤ 9223372036854775808 then (-n, 0) else (0, 10)) else if n ≤ 9223372036854775807 then (n, 0) else (0, 10)
theorem tail_f (below : Bool) {n : Int} (h0 : 0 ≤ n) (h1 : n < 18446744073709551616) : Ev (fun k => if below = true then num_Read.j4 k below n (decide (n ≤ 9223372036854775808)) else num_Read.j4 k below n false) (tail below n) := by
  cases below with
  | true =>
    refine ev_pos rfl ?_
    refine Ev.step (fun k => num_Read.j4.eq_2 ..) ?_
    by_cases h : n ≤ 9223372036854775808
    · have e : tail true n = (-n, 0) := if_pos h
      rw [decide_eq_true h, e]
      refine ev_pos rfl ?_
      have e : wrap64 (IntKind.u64.wrap (-n)) = -n := by
        simp [IntKind.wrap, IntKind.bits, IntKind.signed, wrap64]
        omega
      rw [e]
      exact Ev.now _
    · have e : tail true n = (0, 10) := if_neg h
      rw [decide_eq_false h, e]
      exact ev_neg (by decide) (ev_pos rfl (Ev.now _))
  | false =>
    refine ev_neg (by decide) ?_
    refine Ev.step (fun k => num_Read.j4.eq_2 ..) ?_
    refine ev_neg (by decide) (ev_neg (by decide) ?_)
    by_cases h : n ≤ 9223372036854775807
    · have e : tail false n = (n, 0) := if_pos h
      rw [e]
      refine ev_pos h ?_
      rw [wrap_in (by omega) h]
      exact Ev.now _
    · have e : tail false n = (0, 10) := if_neg h
      rw [e]
      exact ev_neg h (Ev.now _)
theorem pow10 {a b : Nat} (h : a ≤ b) : (10 : Int) ^ a ≤ 10 ^ b := by
  have := Nat.pow_le_pow_right (n := 10) (by omega) h
  exact_mod_cast this

theorem read_l (below : Bool) (s : ByteArray) (suf : List Int) : ∀ (pre : List Int) (n : Int), B s = pre ++ suf → s.size ≤ 19 → 0 ≤ n → n < 10 ^ pre.length →
    Ev (fun k => num_Read.l0 k s below n (s.size : Int) (pre.length : Int)) (if digs suf = true then tail below (val suf n) else (0, 12)) := by
  induction suf with
  | nil =>
    intro pre n hB hs h0 hn
    have hz := size_mid hB
    simp only [digs, val, if_true]
    refine Ev.step (fun k => num_Read.l0.eq_2 ..) ?_
    refine ev_neg (by simp at hz; omega) ?_
    have h19 : (10 : Int) ^ pre.length ≤ 10 ^ 19 := pow10 (by simp at hz; omega)
    exact tail_f below h0 (by omega)
  | cons c t ih =>
    intro pre n hB hs h0 hn
    have hz := size_mid hB
    have hb := bt_mid hB
    simp only [List.length_cons] at hz
    have h18 : (10 : Int) ^ pre.length ≤ 10 ^ 18 := pow10 (by omega)
    refine Ev.step (fun k => num_Read.l0.eq_2 ..) ?_
    refine ev_pos (by omega) (ev_pos (by omega) (ev_pos (by omega) ?_))
    rw [hb]
    by_cases h1 : c < 48
    · refine ev_pos h1 ?_
      rw [if_neg (by simp only [digs, Bool.and_eq_true, decide_eq_true_eq]; omega)]
      exact Ev.now _
    · refine ev_neg h1 ?_
      by_cases h2 : c > 57
      · refine ev_pos h2 ?_
        rw [if_neg (by simp only [digs, Bool.and_eq_true, decide_eq_true_eq]; omega)]
        exact Ev.now _
      · refine ev_neg h2 ?_
        have e : IntKind.u64.wrap (IntKind.u64.wrap (n * 10) + (c - 48) % 256) = n * 10 + (c - 48) := by
          simp [IntKind.wrap, IntKind.bits, IntKind.signed]
          omega
        have e2 : wrap64 ((pre.length : Int) + 1) = ((pre ++ [c]).length : Int) := by
          rw [wrap_in (by omega) (by omega)]
          simp
        rw [e, e2]
        have hd : digs (c :: t) = digs t := by simp only [digs]; rw [decide_eq_true (by omega)]; rfl
        rw [hd, show val (c :: t) n = val t (n * 10 + (c - 48)) from rfl]
        refine ih (pre ++ [c]) _ (by rw [hB]; simp) hs (by omega) ?_
        rw [List.length_append, List.length_singleton, Int.pow_succ]
        omega

theorem read_j1 (s : ByteArray) (below : Bool) : Ev (fun k => num_Read.j1 k s below) (readB below (B s)) := by
  have hz := B_size s
  refine Ev.step (fun k => num_Read.j1.eq_2 ..) ?_
  unfold readB
  have bad : Ev (fun k => num_Read.j2 k s below true) (0, 12) := by
    refine Ev.step (fun k => num_Read.j2.eq_2 ..) ?_
    exact ev_pos rfl (Ev.now _)
  by_cases h1 : s.toList = []
  · refine ev_pos h1 ?_
    rw [if_pos (.inl ((toList_nil_iff s).1 h1))]
    exact bad
  · refine ev_neg h1 ?_
    have h1' : B s ≠ [] := fun z => h1 ((toList_nil_iff s).2 z)
    have hlen : 0 < (B s).length := List.length_pos_iff.2 h1'
    by_cases h2 : (s.size : Int) > 19
    · refine ev_pos h2 ?_
      rw [if_pos (.inr (.inl (by omega)))]
      exact bad
    · refine ev_neg h2 ?_
      refine ev_pos (by omega) ?_
      have good : Ev (fun k => num_Read.j2 k s below false) (if digs (B s) = true then tail below (val (B s) 0) else (0, 12)) := by
        refine Ev.step (fun k => num_Read.j2.eq_2 ..) ?_
        refine ev_neg (by decide) ?_
        exact read_l below s (B s) [] 0 rfl (by omega) (by omega) (by simp)
      have e0 : bt s 0 = (B s).getD 0 0 := bt_B s 0
      by_cases h3 : bt s 0 = 48
      · refine ev_pos h3 ?_
        by_cases h4 : (s.size : Int) > 1
        · refine ev_pos h4 ?_
          rw [if_pos (.inr (.inr ⟨by rw [← e0]; exact h3, .inl (by omega)⟩))]
          exact bad
        · refine ev_neg h4 ?_
          cases below with
          | true =>
            rw [if_pos (.inr (.inr ⟨by rw [← e0]; exact h3, .inr rfl⟩))]
            exact bad
          | false =>
            rw [if_neg (by rintro (z | z | z); exact h1' z; omega; rcases z.2 with z | z; omega; exact absurd z (by decide))]
            exact good
      · refine ev_neg h3 ?_
        rw [if_neg (by rintro (z | z | z); exact h1' z; omega; exact h3 (by rw [e0]; exact z.1))]
        exact good
theorem read_f (s : ByteArray) : Ev (fun k => num_Read.f k s) (readS (B s)) := by
  unfold num_Read.f readS
  have hz := B_size s
  have e0 : bt s 0 = (B s).getD 0 0 := bt_B s 0
  by_cases h1 : s.toList = []
  · have h2 := (toList_nil_iff s).1 h1
    refine ev_pos h1 ?_
    refine Ev.step (fun k => num_Read.j0.eq_2 ..) ?_
    refine ev_neg (by decide) ?_
    have := read_j1 s false
    rw [h2] at this ⊢
    exact this
  · refine ev_neg h1 ?_
    have h1' : B s ≠ [] := fun z => h1 ((toList_nil_iff s).2 z)
    have hlen : 0 < (B s).length := List.length_pos_iff.2 h1'
    refine ev_pos (by omega) ?_
    refine Ev.step (fun k => num_Read.j0.eq_2 ..) ?_
    by_cases h : (B s).getD 0 0 = 45
    · rw [if_pos h]
      have hb : (bt s 0 == 45) = true := by rw [e0, h]; rfl
      rw [hb]
      refine ev_pos rfl ?_
      refine ev_pos (by omega) ?_
      have := read_j1 (s.extract 1 s.size) true
      rw [B_extract, List.take_of_length_le (by omega)] at this
      exact this
    · rw [if_neg h]
      have hb : (bt s 0 == 45) = false := beq_eq_false_iff_ne.mpr (by rw [e0]; exact h)
      rw [hb]
      exact ev_neg (by decide) (read_j1 s false)
end Go.Proofs.Ytckdcaidhpjjaaa.Num
