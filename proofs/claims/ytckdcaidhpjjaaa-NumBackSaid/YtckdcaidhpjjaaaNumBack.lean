/- A number comes back from its digits, and a text that is read is that number's. -/
import Derived.Test.YtckdcaidhpjjaaaNumRead2
namespace Go.Proofs.Ytckdcaidhpjjaaa.Num
set_option linter.unusedVariables false
set_option linter.unusedSimpArgs false
open Go Go.RowKit Go.Proofs.Ytckdcaidhpjjaaa.Q Go.Proofs.YtckdcaidhpjjaaaW.PrintWords Go.Proofs.Ytckdcaidhpjjaaa.Aux Go.Proofs.Ytckdcaidhpjjaaa.By

theorem val_snoc (l : List Int) (c : Int) : ∀ n, val (l ++ [c]) n = val l n * 10 + (c - 48) := by
  induction l with
  | nil => intro n; rfl
  | cons a t ih => intro n; exact ih _
theorem digs_snoc (l : List Int) (c : Int) : digs (l ++ [c]) = (digs l && decide (48 ≤ c ∧ c ≤ 57)) := by
  induction l with
  | nil => simp [digs]
  | cons a t ih => simp only [List.cons_append, digs, ih, Bool.and_assoc]
theorem dec_all (n : Nat) : digs (X.decI n) = true ∧ val (X.decI n) 0 = n ∧ ((X.decI n).getD 0 0 = 48 → n = 0) := by
  induction n using Nat.strongRecOn with
  | _ n ih =>
    by_cases h : n < 10
    · rw [X.decI_small h]
      refine ⟨by simp only [digs]; rw [decide_eq_true (by omega)]; rfl, by simp only [val]; omega, fun z => ?_⟩
      simp at z
      omega
    · obtain ⟨h1, h2, h3⟩ := ih (n / 10) (by omega)
      rw [X.decI_big h, digs_snoc, val_snoc, h1, h2]
      refine ⟨by rw [decide_eq_true (by omega)]; rfl, by omega, fun z => ?_⟩
      have hl := (X.decI_len n (n / 10) (Nat.lt_of_lt_of_le (Nat.lt_pow_self (by omega)) (Nat.pow_le_pow_left (by omega : 2 ≤ 10) _) |> fun h => by
        have h5 : n < 10 ^ n := Nat.lt_pow_self (by omega)
        have h6 : (10 : Nat) ^ n ≤ 10 ^ (n + 1) := Nat.pow_le_pow_right (by omega) (by omega)
        omega)).2
      have e : (X.decI (n / 10) ++ [48 + ((n % 10 : Nat) : Int)]).getD 0 0 = (X.decI (n / 10)).getD 0 0 := by
        simp only [List.getD_eq_getElem?_getD]
        rw [List.getElem?_append_left (by omega)]
      rw [e] at z
      have := h3 z
      omega
theorem dec_head (n : Nat) : (X.decI n).getD 0 0 ≠ 45 := by
  intro z
  have hl : X.decI n ≠ [] := by
    by_cases h : n < 10
    · rw [X.decI_small h]; simp
    · rw [X.decI_big h]; simp
  obtain ⟨c, t, e⟩ : ∃ c t, X.decI n = c :: t := by
    cases h : X.decI n with
    | nil => exact absurd h hl
    | cons c t => exact ⟨c, t, rfl⟩
  have := X.decI_mem n c (by rw [e]; exact List.mem_cons_self)
  rw [e] at z
  simp at z
  omega
theorem read_dig {a : Int} (ha : in64 a) : readS (X.digI a) = (a, 0) := by
  unfold in64 at ha
  have hl := X.decI_19 (n := a.natAbs) (by omega)
  obtain ⟨h1, h2, h3⟩ := dec_all a.natAbs
  have hne : X.decI a.natAbs ≠ [] := fun z => by rw [z] at hl; simp at hl
  unfold readS X.digI
  by_cases hn : a < 0
  · rw [if_pos hn, if_pos (show (45 :: X.decI a.natAbs).getD 0 0 = 45 from rfl)]
    show readB true (X.decI a.natAbs) = _
    unfold readB
    rw [if_neg (by rintro (z | z | z); exact hne z; omega; have := h3 z.1; omega), if_pos h1, if_pos rfl, h2, if_pos (by omega)]
    congr 1
    omega
  · rw [if_neg hn, if_neg (dec_head _)]
    unfold readB
    rw [if_neg ?_, if_pos h1, if_neg (by decide), h2, if_pos (by omega)]
    · congr 1
      omega
    · rintro (z | z | z)
      · exact hne z
      · omega
      · have h0 := h3 z.1
        rcases z.2 with y | y
        · rw [h0, X.decI_small (by omega)] at y
          simp at y
        · exact absurd y (by decide)
theorem rev_ind {P : List Int → Prop} (h0 : P []) (h1 : ∀ l c, P l → P (l ++ [c])) (l : List Int) : P l := by
  have : ∀ r : List Int, P r.reverse := by
    intro r
    induction r with
    | nil => exact h0
    | cons c t ih => rw [List.reverse_cons]; exact h1 _ _ ih
  have h := this l.reverse
  rwa [List.reverse_reverse] at h
theorem head_snoc {l : List Int} {c : Int} (h : l ≠ []) : (l ++ [c]).getD 0 0 = l.getD 0 0 := by
  cases l with
  | nil => exact absurd rfl h
  | cons a t => rfl
theorem dec_val (l : List Int) : l ≠ [] → digs l = true → (l.getD 0 0 = 48 → l.length = 1) → X.decI (val l 0).toNat = l := by
  induction l using rev_ind with
  | h0 => intro h; exact absurd rfl h
  | h1 l c ih =>
    intro _ hd hh
    rw [digs_snoc, Bool.and_eq_true, decide_eq_true_eq] at hd
    rw [val_snoc]
    by_cases hl : l = []
    · subst hl
      simp only [val, List.nil_append]
      rw [X.decI_small (by omega)]
      congr 1
      omega
    · have hpos : 0 < l.length := List.length_pos_iff.2 hl
      have h48 : l.getD 0 0 ≠ 48 := by
        intro z
        have hz := hh (by rw [head_snoc hl]; exact z)
        rw [List.length_append, List.length_singleton] at hz
        omega
      have hv : 1 ≤ val l 0 := by
        cases l with
        | nil => exact absurd rfl hl
        | cons a t =>
          have hd1 := hd.1
          simp only [digs, Bool.and_eq_true, decide_eq_true_eq] at hd1
          have h48' : a ≠ 48 := h48
          have := val_ge t hd1.2 (0 * 10 + (a - 48)) (by omega)
          simp only [val]
          omega
      have hi := ih hl hd.1 (fun z => absurd z h48)
      have e : (val l 0 * 10 + (c - 48)).toNat = (val l 0).toNat * 10 + (c - 48).toNat := by omega
      rw [e, X.decI_big (by omega)]
      have e1 : ((val l 0).toNat * 10 + (c - 48).toNat) / 10 = (val l 0).toNat := by omega
      have e2 : ((val l 0).toNat * 10 + (c - 48).toNat) % 10 = (c - 48).toNat := by omega
      rw [e1, e2, hi]
      congr 2
      omega
theorem dig_read {l : List Int} {m : Int} (h : readS l = (m, 0)) : in64 m ∧ X.digI m = l := by
  unfold readS at h
  by_cases h45 : l.getD 0 0 = 45
  · rw [if_pos h45] at h
    obtain ⟨t, rfl⟩ : ∃ t, l = 45 :: t := by
      cases l with
      | nil => simp at h45
      | cons c t => simp at h45; exact ⟨t, by rw [h45]⟩
    have ht : (45 :: t).drop 1 = t := rfl
    rw [ht] at h
    unfold readB at h
    by_cases hb : t = [] ∨ t.length > 19 ∨ t.getD 0 0 = 48 ∧ (t.length > 1 ∨ true = true)
    · rw [if_pos hb] at h
      simp at h
    · rw [if_neg hb] at h
      by_cases hd : digs t = true
      · rw [if_pos hd, if_pos rfl] at h
        by_cases hv : val t 0 ≤ 9223372036854775808
        · rw [if_pos hv] at h
          have hm : m = -(val t 0) := by simp at h; omega
          have h0 := val_ge t hd 0 (by omega)
          have hne : t ≠ [] := fun z => hb (.inl z)
          have h48 : t.getD 0 0 ≠ 48 := fun z => hb (.inr (.inr ⟨z, .inr rfl⟩))
          have hdv := dec_val t hne hd (fun z => absurd z h48)
          have hp : 0 < val t 0 := by
            cases t with
            | nil => exact absurd rfl hne
            | cons a u =>
              simp only [digs, Bool.and_eq_true, decide_eq_true_eq] at hd
              have h48' : a ≠ 48 := h48
              have := val_ge u hd.2 (0 * 10 + (a - 48)) (by omega)
              simp only [val]
              omega
          refine ⟨by unfold in64; omega, ?_⟩
          unfold X.digI
          rw [if_pos (by omega), hm, show (-(val t 0)).natAbs = (val t 0).toNat by omega, hdv]
        · rw [if_neg hv] at h
          simp at h
      · rw [if_neg hd] at h
        simp at h
  · rw [if_neg h45] at h
    unfold readB at h
    by_cases hb : l = [] ∨ l.length > 19 ∨ l.getD 0 0 = 48 ∧ (l.length > 1 ∨ false = true)
    · rw [if_pos hb] at h
      simp at h
    · rw [if_neg hb] at h
      by_cases hd : digs l = true
      · rw [if_pos hd, if_neg (by decide)] at h
        by_cases hv : val l 0 ≤ 9223372036854775807
        · rw [if_pos hv] at h
          have hm : m = val l 0 := by simp at h; omega
          have h0 := val_ge l hd 0 (by omega)
          have hne : l ≠ [] := fun z => hb (.inl z)
          have hpos : 0 < l.length := List.length_pos_iff.2 hne
          have hdv := dec_val l hne hd (fun z => by
            rcases Nat.lt_or_ge 1 l.length with y | y
            · exact absurd (.inr (.inr ⟨z, .inl y⟩)) hb
            · omega)
          refine ⟨by unfold in64; omega, ?_⟩
          unfold X.digI
          rw [if_neg (by omega), hm, show (val l 0).natAbs = (val l 0).toNat by omega, hdv]
        · rw [if_neg hv] at h
          simp at h
      · rw [if_neg hd] at h
        simp at h
theorem digI_range {a : Int} : ∀ x ∈ X.digI a, 0 ≤ x ∧ x ≤ 255 := by
  intro x hx
  unfold X.digI at hx
  split at hx
  · rcases List.mem_cons.1 hx with rfl | hx
    · omega
    · have := X.decI_mem _ x hx
      omega
  · have := X.decI_mem _ x hx
    omega
theorem B_dig (a : Int) : B (strOfNums (X.digI a)) = X.digI a := B_ofNums digI_range
end Go.Proofs.Ytckdcaidhpjjaaa.Num
