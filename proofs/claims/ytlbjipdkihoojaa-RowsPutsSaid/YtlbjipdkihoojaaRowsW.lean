/- Rows as bytes, in plain words, and what the functions come to. -/
import Derived.Test.YtlbjipdkihoojaaQ3
import Derived.Test.YtlbjipdkihoojaaQ4
import Derived.Test.YtlbjipdkihoojaaAux
import Derived.Test.YtlbjipdkihoojaaBy
namespace Go.Proofs.Ytlbjipdkihoojaa.RowsW
set_option linter.unusedVariables false
set_option linter.unusedSimpArgs false
open Go Go.RowKit Go.Proofs.Ytlbjipdkihoojaa.Q Go.Proofs.YtlbjipdkihoojaaW.PrintWords Go.Proofs.Ytlbjipdkihoojaa.Aux Go.Proofs.Ytlbjipdkihoojaa.By

theorem ev_to {α : Type} {g : Nat → Option α} {a b : α} (h : Ev g a) (e : a = b) : Ev g b := e ▸ h
def plainL : List Int → Bool
  | [] => true
  | c :: t => decide (32 ≤ c) && (decide (c ≤ 126) && plainL t)
/-- may a value be? -/
def right (v : S45) : Bool :=
  if v.f0 = 0 then (v.f1 == 0 && (v.f2.toList == ([] : List UInt8)))
  else if v.f0 = 1 then (v.f2.toList == ([] : List UInt8))
  else if v.f0 = 2 then ((v.f2.toList == ([] : List UInt8)) && (v.f1 == 0 || v.f1 == 1))
  else if v.f0 = 3 then (v.f1 == 0 && (decide (v.f2.size ≤ 32) && plainL (B v.f2)))
  else false
theorem B_at (s : ByteArray) (i : Nat) (h : i < (B s).length) : bt s (i : Int) = (B s)[i] := by
  rw [bt_B, Int.toNat_natCast, List.getD_eq_getElem?_getD, List.getElem?_eq_getElem h, Option.getD_some]
theorem rd_at (l : List S45) (i : Nat) (h : i < l.length) : rd_T45 l (i : Int) = l[i] := by
  simp [rd_T45, List.getD_eq_getElem?_getD, h]
theorem plain_l (s : ByteArray) (hs : s.size ≤ 1000) : ∀ (m n : Nat), n + m = s.size → Ev (fun k => value_plain.l0 k s s.size n) (plainL ((B s).drop n))
  | m, n, hn => by
    have hb := B_size s
    refine Ev.step (fun k => value_plain.l0.eq_2 ..) ?_
    cases m with
    | zero =>
      refine ev_neg (by omega) ?_
      rw [List.drop_eq_nil_of_le (by omega)]
      exact Ev.now _
    | succ m =>
      refine ev_pos (by omega) ?_
      refine ev_pos (by omega) ?_
      refine ev_pos (by omega) ?_
      rw [B_at s n (by omega), List.drop_eq_getElem_cons (by omega : n < (B s).length)]
      simp only [plainL]
      by_cases h1 : (B s)[n]'(by omega) < 32
      · refine ev_pos h1 ?_
        refine ev_to (Ev.now _) ?_
        simp [show ¬ (32 : Int) ≤ (B s)[n]'(by omega) by omega]
      · refine ev_neg h1 ?_
        by_cases h2 : (B s)[n]'(by omega) > 126
        · refine ev_pos h2 ?_
          refine ev_to (Ev.now _) ?_
          simp [show ¬ (B s)[n]'(by omega) ≤ 126 by omega]
        · refine ev_neg h2 ?_
          rw [wrap_in (by omega) (by omega)]
          refine ev_to (plain_l s hs m (n + 1) (by omega)) ?_
          simp [show (B s)[n]'(by omega) ≤ 126 by omega, show (32 : Int) ≤ (B s)[n]'(by omega) by omega]
theorem rplain_l (s : ByteArray) (hs : s.size ≤ 1000) : ∀ (m n : Nat), n + m = s.size → Ev (fun k => registrarref03_Plain.l0 k s n) (plainL ((B s).drop n))
  | m, n, hn => by
    have hb := B_size s
    refine Ev.step (fun k => registrarref03_Plain.l0.eq_2 ..) ?_
    cases m with
    | zero =>
      refine ev_neg (by omega) ?_
      rw [List.drop_eq_nil_of_le (by omega)]
      exact Ev.now _
    | succ m =>
      refine ev_pos (by omega) ?_
      refine ev_pos (by omega) ?_
      rw [B_at s n (by omega), List.drop_eq_getElem_cons (by omega : n < (B s).length)]
      simp only [plainL]
      by_cases h1 : (B s)[n]'(by omega) < 32
      · refine ev_pos h1 ?_
        refine ev_to (Ev.now _) ?_
        simp [show ¬ (32 : Int) ≤ (B s)[n]'(by omega) by omega]
      · refine ev_neg h1 ?_
        by_cases h2 : (B s)[n]'(by omega) > 126
        · refine ev_pos h2 ?_
          refine ev_to (Ev.now _) ?_
          simp [show ¬ (B s)[n]'(by omega) ≤ 126 by omega]
        · refine ev_neg h2 ?_
          rw [wrap_in (by omega) (by omega)]
          refine ev_to (rplain_l s hs m (n + 1) (by omega)) ?_
          simp [show (B s)[n]'(by omega) ≤ 126 by omega, show (32 : Int) ≤ (B s)[n]'(by omega) by omega]
theorem right_f (v : S45) : Ev (fun k => value_Right.f k v.f0 v.f1 v.f2) (right v) := by
  unfold value_Right.f right
  by_cases h0 : v.f0 = 0
  · refine ev_pos h0 ?_
    refine ev_to (Ev.now _) ?_
    simp [h0]
  · refine ev_neg h0 ?_
    rw [if_neg h0]
    by_cases h1 : v.f0 = 1
    · refine ev_pos h1 ?_
      rw [if_pos h1]
      exact Ev.now _
    · refine ev_neg h1 ?_
      rw [if_neg h1]
      by_cases h2 : v.f0 = 2
      · refine ev_pos h2 ?_
        rw [if_pos h2]
        by_cases ht : v.f2.toList = ([] : List UInt8)
        · refine ev_pos ht ?_
          by_cases h3 : v.f1 = 0
          · refine ev_pos h3 ?_
            refine ev_to (Ev.now _) ?_
            simp [ht, h3]
          · refine ev_neg h3 ?_
            refine ev_to (Ev.now _) ?_
            simp [ht, h3]
        · refine ev_neg ht ?_
          refine ev_to (Ev.now _) ?_
          simp [ht]
      · refine ev_neg h2 ?_
        rw [if_neg h2]
        by_cases h3 : v.f0 = 3
        · refine ev_pos h3 ?_
          rw [if_pos h3]
          by_cases h4 : v.f1 = 0
          · refine ev_pos h4 ?_
            by_cases h5 : v.f2.size ≤ 32
            · refine ev_pos (by omega) ?_
              have := plain_l v.f2 (by omega) v.f2.size 0 (by omega)
              refine Ev.bind this ?_
              refine ev_to (Ev.now _) ?_
              simp [h4, h5]
            · refine ev_neg (by omega) ?_
              refine ev_to (Ev.now _) ?_
              simp [h5]
          · refine ev_neg h4 ?_
            refine ev_to (Ev.now _) ?_
            simp [h4]
        · refine ev_neg h3 ?_
          rw [if_neg h3]
          exact Ev.now _
theorem rright_f (v : S45) : Ev (fun k => registrarref03_Right.f k v.f0 v.f1 v.f2) (right v) := by
  unfold registrarref03_Right.f right
  by_cases h0 : v.f0 = 0
  · refine ev_pos h0 ?_
    rw [if_pos h0]
    by_cases h1 : v.f1 = 0
    · refine ev_pos h1 ?_
      refine ev_to (Ev.now _) ?_
      simp [h1]
    · refine ev_neg h1 ?_
      refine ev_to (Ev.now _) ?_
      simp [h1]
  · refine ev_neg h0 ?_
    rw [if_neg h0]
    by_cases h1 : v.f0 = 1
    · refine ev_pos h1 ?_
      rw [if_pos h1]
      exact Ev.now _
    · refine ev_neg h1 ?_
      rw [if_neg h1]
      by_cases h2 : v.f0 = 2
      · refine ev_pos h2 ?_
        rw [if_pos h2]
        by_cases ht : v.f2.toList = ([] : List UInt8)
        · refine ev_pos ht ?_
          by_cases h3 : v.f1 ≥ 0
          · refine ev_pos h3 ?_
            refine ev_to (Ev.now _) ?_
            rw [Bool.eq_iff_iff]
            simp [ht]
            omega
          · refine ev_neg h3 ?_
            refine ev_to (Ev.now _) ?_
            symm
            simp [ht]
            omega
        · refine ev_neg ht ?_
          refine ev_to (Ev.now _) ?_
          simp [ht]
      · refine ev_neg h2 ?_
        rw [if_neg h2]
        by_cases h3 : v.f0 = 3
        · refine ev_pos h3 ?_
          rw [if_pos h3]
          by_cases h4 : v.f1 = 0
          · refine ev_pos h4 ?_
            by_cases h5 : v.f2.size ≤ 32
            · refine ev_pos (by omega) ?_
              have := rplain_l v.f2 (by omega) v.f2.size 0 (by omega)
              refine Ev.bind this ?_
              refine ev_to (Ev.now _) ?_
              simp [h4, h5]
            · refine ev_neg (by omega) ?_
              refine ev_to (Ev.now _) ?_
              simp [h5]
          · refine ev_neg h4 ?_
            refine ev_to (Ev.now _) ?_
            simp [h4]
        · refine ev_neg h3 ?_
          rw [if_neg h3]
          exact Ev.now _
/-- the first that may not be, or none -/
theorem index_l (l : List S45) (hl : l.length ≤ 1000) : ∀ (m n : Nat), n + m = l.length → ∃ r : Int, Ev (fun k => slices_IndexFunc__api_Value_api_Value_c36.l0 k l l.length n) r ∧ decide (r ≥ 0) = !((l.drop n).all right)
  | m, n, hn => by
    cases m with
    | zero =>
      refine ⟨-1, ?_, ?_⟩
      · refine Ev.step (fun k => slices_IndexFunc__api_Value_api_Value_c36.l0.eq_2 ..) ?_
        refine ev_neg (by omega) ?_
        exact Ev.now _
      · rw [List.drop_eq_nil_of_le (by omega)]
        rfl
    | succ m =>
      have hlt : n < l.length := by omega
      have hd := List.drop_eq_getElem_cons hlt
      have hr := right_f l[n]
      have hc : Ev (fun k => rows_Check_1.f k l[n].f0 l[n].f1 l[n].f2) (!(right l[n])) := by
        unfold rows_Check_1.f
        refine Ev.bind hr ?_
        exact Ev.now _
      obtain ⟨r, h1, h2⟩ := index_l l hl m (n + 1) (by omega)
      by_cases h : right l[n] = true
      · refine ⟨r, ?_, ?_⟩
        · refine Ev.step (fun k => slices_IndexFunc__api_Value_api_Value_c36.l0.eq_2 ..) ?_
          refine ev_pos (by omega) ?_
          refine ev_pos (by omega) ?_
          refine ev_pos (by omega) ?_
          rw [rd_at l n hlt]
          refine Ev.bind hc ?_
          refine ev_neg (by simp [h]) ?_
          rw [wrap_in (by omega) (by omega)]
          exact h1
        · rw [h2, hd, List.all_cons, h, Bool.true_and]
      · refine ⟨n, ?_, ?_⟩
        · refine Ev.step (fun k => slices_IndexFunc__api_Value_api_Value_c36.l0.eq_2 ..) ?_
          refine ev_pos (by omega) ?_
          refine ev_pos (by omega) ?_
          refine ev_pos (by omega) ?_
          rw [rd_at l n hlt]
          refine Ev.bind hc ?_
          refine ev_pos (by simp [h]) ?_
          exact Ev.now _
        · rw [hd, List.all_cons]
          simp [h]
def check (n : Int) (l : List S45) : Int := if l.length > 6 then 3 else if n < 0 then 2 else if l.all right then 0 else 2
theorem check_f (n : Int) (l : List S45) (hl : l.length ≤ 1000) : Ev (fun k => rows_Check.f k n l) (check n l) := by
  unfold rows_Check.f check
  by_cases h : l.length > 6
  · refine ev_pos (by omega) ?_
    rw [if_pos h]
    exact Ev.now _
  · refine ev_neg (by omega) ?_
    rw [if_neg h]
    by_cases h1 : n < 0
    · refine ev_pos h1 ?_
      rw [if_pos h1]
      exact Ev.now _
    · refine ev_neg h1 ?_
      rw [if_neg h1]
      obtain ⟨r, h2, h3⟩ := index_l l hl l.length 0 (by omega)
      have h4 : Ev (fun k => slices_ContainsFunc__api_Value_api_Value_c36.f k l) (decide (r ≥ 0)) := by
        unfold slices_ContainsFunc__api_Value_api_Value_c36.f
        refine Ev.bind h2 ?_
        exact Ev.now _
      refine Ev.bind h4 ?_
      rw [h3, List.drop_zero]
      by_cases ha : l.all right = true
      · refine ev_neg (by simp [ha]) ?_
        rw [if_pos ha]
        exact Ev.now _
      · refine ev_pos (by simpa using ha) ?_
        rw [if_neg ha]
        exact Ev.now _
theorem rcheck_l (n : Int) (l : List S45) (hl : l.length ≤ 1000) : ∀ (m i : Nat), i + m = l.length → Ev (fun k => registrarref05_Check.l0 k i n l) (if (l.drop i).all right then 0 else 2)
  | m, i, hi => by
    refine Ev.step (fun k => registrarref05_Check.l0.eq_2 ..) ?_
    cases m with
    | zero =>
      refine ev_neg (by omega) ?_
      rw [List.drop_eq_nil_of_le (by omega)]
      exact Ev.now _
    | succ m =>
      have hlt : i < l.length := by omega
      refine ev_pos (by omega) ?_
      refine ev_pos (by omega) ?_
      rw [rd_at l i hlt]
      refine Ev.bind (rright_f _) ?_
      rw [List.drop_eq_getElem_cons hlt, List.all_cons]
      by_cases h : right l[i] = true
      · refine ev_pos h ?_
        rw [wrap_in (by omega) (by omega), h, Bool.true_and]
        exact rcheck_l n l hl m (i + 1) (by omega)
      · refine ev_neg h ?_
        refine ev_to (Ev.now _) ?_
        simp [h]
theorem rcheck_f (n : Int) (l : List S45) (hl : l.length ≤ 1000) : Ev (fun k => registrarref05_Check.f k n l) (check n l) := by
  unfold registrarref05_Check.f check
  by_cases h : l.length > 6
  · refine ev_pos (by omega) ?_
    rw [if_pos h]
    exact Ev.now _
  · refine ev_neg (by omega) ?_
    rw [if_neg h]
    by_cases h1 : n < 0
    · refine ev_pos h1 ?_
      rw [if_pos h1]
      exact Ev.now _
    · refine ev_neg h1 ?_
      rw [if_neg h1]
      exact rcheck_l n l hl l.length 0 (by omega)
/-- too many values, or too long ones? -/
def large (l : List S45) : Bool := decide (l.length > 10) || l.any (fun v => decide (v.f2.size > 200))
theorem large_l (n : Int) (l : List S45) (hl : l.length ≤ maxLen) : ∀ (m i : Nat), i + m = 10 → i ≤ l.length → Ev (fun k => registrarlaw05_large.l0 k i n l) (decide (l.length > 10) || (l.drop i).any (fun v => decide (v.f2.size > 200)))
  | m, i, hi, hil => by
    refine Ev.step (fun k => registrarlaw05_large.l0.eq_2 ..) ?_
    by_cases h : i < l.length
    · refine ev_pos (by omega) ?_
      cases m with
      | zero =>
        refine ev_pos (by omega) ?_
        refine ev_to (Ev.now _) ?_
        have : l.length > 10 := by omega
        simp [this]
      | succ m =>
        refine ev_neg (by omega) ?_
        refine ev_pos (by omega) ?_
        rw [rd_at l i h, List.drop_eq_getElem_cons h, List.any_cons]
        by_cases h2 : l[i].f2.size > 200
        · refine ev_pos (by omega) ?_
          refine ev_to (Ev.now _) ?_
          simp [h2]
        · refine ev_neg (by omega) ?_
          rw [wrap_in (by omega) (by omega)]
          refine ev_to (large_l n l hl m (i + 1) (by omega) (by omega)) ?_
          simp [h2]
    · refine ev_neg (by omega) ?_
      refine ev_to (Ev.now _) ?_
      rw [List.drop_eq_nil_of_le (by omega)]
      have : ¬ l.length > 10 := by omega
      simp [this]
theorem large_f (n : Int) (l : List S45) (hl : l.length ≤ maxLen) : Ev (fun k => registrarlaw05_large.f k n l) (large l) := large_l n l hl 10 0 (by omega) (by omega)
theorem large_not {l : List S45} (h : ¬ large l = true) : l.length ≤ 10 ∧ ∀ v ∈ l, v.f2.size ≤ 200 := by
  simp only [large, Bool.or_eq_true, decide_eq_true_eq, List.any_eq_true, not_or, not_exists, not_and] at h
  exact ⟨by omega, fun v hv => by have := h.2 v hv; omega⟩
end Go.Proofs.Ytlbjipdkihoojaa.RowsW
