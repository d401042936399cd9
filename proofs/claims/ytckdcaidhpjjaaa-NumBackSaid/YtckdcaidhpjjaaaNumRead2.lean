/- The reference's reader: digit by digit with its own products and sums, it comes to the same word. -/
import Derived.Test.YtckdcaidhpjjaaaNumRead
namespace Go.Proofs.Ytckdcaidhpjjaaa.Num
set_option linter.unusedVariables false
set_option linter.unusedSimpArgs false
open Go Go.RowKit Go.Proofs.Ytckdcaidhpjjaaa.Q Go.Proofs.YtckdcaidhpjjaaaW.PrintWords Go.Proofs.Ytckdcaidhpjjaaa.Aux Go.Proofs.Ytckdcaidhpjjaaa.By

theorem rr_err (s : ByteArray) (fr n i : Int) {e : Int} (he : e ≠ 0) : Ev (fun k => registrarref01_Read.l1 k s fr n e i) (0, e) := by
  have hj : Ev (fun k => registrarref01_Read.j6 k s fr n e i false) (0, e) := by
    refine Ev.step (fun k => registrarref01_Read.j6.eq_2 ..) ?_
    exact ev_neg (by decide) (ev_neg he (Ev.now _))
  refine Ev.step (fun k => registrarref01_Read.l1.eq_2 ..) ?_
  by_cases h : i < (s.size : Int)
  · refine ev_pos h ?_
    rw [show (e == 0) = false by simp [he]]
    exact hj
  · exact ev_neg h hj
/-- the sign -/
def sg (below : Bool) (n : Int) : Int := if below = true then -n else n
theorem rr_l1 (s : ByteArray) (below : Bool) (fr : Int) (hfr : fr = if below = true then 1 else 0) (suf : List Int) : ∀ (pre : List Int) (m : Int), B s = pre ++ suf → s.size ≤ 200 → digs suf = true → 0 ≤ m → in64 (sg below m) →
    Ev (fun k => registrarref01_Read.l1 k s fr (sg below m) 0 (pre.length : Int)) (res (sg below (val suf m))) := by
  induction suf with
  | nil =>
    intro pre m hB hs hd h0 hm
    have hz := size_mid hB
    refine Ev.step (fun k => registrarref01_Read.l1.eq_2 ..) ?_
    refine ev_neg (by simp at hz; omega) ?_
    refine Ev.step (fun k => registrarref01_Read.j6.eq_2 ..) ?_
    refine ev_neg (by decide) (ev_pos rfl ?_)
    simp only [val]
    rw [res_in hm]
    exact Ev.now _
  | cons c t ih =>
    intro pre m hB hs hd h0 hm
    have hz := size_mid hB
    have hb := bt_mid hB
    simp only [List.length_cons] at hz
    simp only [digs, Bool.and_eq_true, decide_eq_true_eq] at hd
    have hnx : wrap64 ((pre.length : Int) + 1) = ((pre ++ [c]).length : Int) := by
      rw [wrap_in (by omega) (by omega)]
      simp
    have hc : wrap64 (wrap64 c - 48) = c - 48 := by
      rw [wrap_in (x := c) (by omega) (by omega), wrap_in (by omega) (by omega)]
    have hge := val_ge t hd.2
    refine Ev.step (fun k => registrarref01_Read.l1.eq_2 ..) ?_
    refine ev_pos (by omega) ?_
    refine Ev.step (fun k => registrarref01_Read.j6.eq_2 ..) ?_
    refine ev_pos rfl ?_
    refine Ev.bind (rtimes_f hm (by unfold in64; omega)) ?_
    simp only [val]
    have hmul : sg below m * 10 = sg below (m * 10) := by unfold sg; split <;> omega
    rw [hmul]
    by_cases h1 : in64 (sg below (m * 10))
    · rw [res_in h1]
      refine ev_pos rfl ?_
      refine Ev.step (fun k => registrarref01_Read.j7.eq_2 ..) ?_
      have key : Ev (fun k => registrarref01_Read.l1 k s fr (res (sg below (m * 10 + (c - 48)))).1 (res (sg below (m * 10 + (c - 48)))).2 (wrap64 ((pre.length : Int) + 1))) (res (sg below (val t (m * 10 + (c - 48))))) := by
        by_cases h2 : in64 (sg below (m * 10 + (c - 48)))
        · rw [res_in h2, hnx]
          exact ih (pre ++ [c]) _ (by rw [hB]; simp) hs hd.2 (by omega) h2
        · rw [res_out h2]
          have h3 : ¬ in64 (sg below (val t (m * 10 + (c - 48)))) := by
            have := hge (m * 10 + (c - 48)) (by omega)
            unfold in64 sg at h2 ⊢
            split <;> simp_all <;> omega
          rw [res_out h3]
          exact rr_err s fr _ _ (by decide)
      cases below with
      | false =>
        rw [hfr]
        refine ev_pos (by decide) (ev_pos (by omega) (ev_pos (by omega) ?_))
        rw [hb, hc]
        refine ev_one (rplus_f h1 (by unfold in64; omega)) ?_
        rw [hfr] at key
        exact key
      | true =>
        rw [hfr]
        refine ev_neg (by decide) (ev_pos rfl (ev_pos (by omega) (ev_pos (by omega) ?_)))
        rw [hb, hc]
        refine ev_one (rminus_f h1 (by unfold in64; omega)) ?_
        have e : sg true (m * 10) - (c - 48) = sg true (m * 10 + (c - 48)) := by unfold sg; simp; omega
        rw [e]
        rw [hfr] at key
        exact key
    · rw [res_out h1]
      have h3 : ¬ in64 (sg below (val t (m * 10 + (c - 48)))) := by
        have := hge (m * 10 + (c - 48)) (by omega)
        unfold in64 sg at h1 ⊢
        split <;> simp_all <;> omega
      rw [res_out h3]
      refine ev_neg (by decide) ?_
      refine Ev.step (fun k => registrarref01_Read.j7.eq_2 ..) ?_
      exact ev_neg (by decide) (ev_neg (by decide) (rr_err s fr _ _ (by decide)))
theorem tail_res (below : Bool) {n : Int} (h : 0 ≤ n) : tail below n = res (sg below n) := by
  cases below <;> simp only [tail, sg, res, if_true, if_false, Bool.false_eq_true]
  · by_cases h1 : n ≤ 9223372036854775807
    · rw [if_pos h1, if_pos (by omega)]
    · rw [if_neg h1, if_neg (by omega)]
  · by_cases h1 : n ≤ 9223372036854775808
    · rw [if_pos h1, if_pos (by omega)]
    · rw [if_neg h1, if_neg (by omega)]
theorem rr_l0 (s : ByteArray) (fr : Int) (r : Int × Int) (suf : List Int) : ∀ pre : List Int, B s = pre ++ suf → s.size ≤ 200 →
    (digs suf = true → Ev (fun k => registrarref01_Read.l0 k s fr (s.size : Int)) r) →
    Ev (fun k => registrarref01_Read.l0 k s fr (pre.length : Int)) (if digs suf = true then r else (0, 12)) := by
  induction suf with
  | nil =>
    intro pre hB hs hr
    have hz := size_mid hB
    have e : (if digs [] = true then r else (0, 12)) = r := if_pos rfl
    rw [e]
    have := hr rfl
    simp only [List.length_nil, Nat.add_zero] at hz
    rw [hz] at this
    exact this
  | cons c t ih =>
    intro pre hB hs hr
    have hz := size_mid hB
    have hb := bt_mid hB
    simp only [List.length_cons] at hz
    refine Ev.step (fun k => registrarref01_Read.l0.eq_2 ..) ?_
    refine ev_pos (by omega) (ev_pos (by omega) ?_)
    rw [hb]
    by_cases h1 : c < 48
    · refine ev_pos h1 ?_
      rw [if_neg (by simp only [digs, Bool.and_eq_true, decide_eq_true_eq]; omega)]
      exact Ev.now _
    · refine ev_neg h1 ?_
      by_cases h2 : c > 57
      · refine ev_pos h2 ?_
        rw [if_neg (by simp only [digs, Bool.and_eq_true, decide_eq_true_eq]; omega)]
        exact Ev.now _
      · refine ev_neg h2 ?_
        have hd : digs (c :: t) = digs t := by simp only [digs]; rw [decide_eq_true (by omega)]; rfl
        have e2 : wrap64 ((pre.length : Int) + 1) = ((pre ++ [c]).length : Int) := by
          rw [wrap_in (by omega) (by omega)]
          simp
        rw [hd, e2]
        exact ih (pre ++ [c]) (by rw [hB]; simp) hs (fun z => hr (by rw [hd]; exact z))
theorem rr_j1 (s : ByteArray) (below : Bool) (hs : s.size ≤ 200) (hb : below = true → 1 ≤ s.size) : Ev (fun k => registrarref01_Read.j1 k s (if below = true then 1 else 0)) (readB below ((B s).drop (if below = true then 1 else 0))) := by
  have hz := B_size s
  obtain ⟨fr, hfr⟩ : ∃ fr : Nat, fr = if below = true then 1 else 0 := ⟨_, rfl⟩
  have hfi : (if below = true then (1 : Int) else 0) = (fr : Int) := by rw [hfr]; split <;> rfl
  rw [← hfr, hfi]
  have hle : fr ≤ s.size := by rw [hfr]; split; exact hb ‹_›; omega
  have hf1 : fr ≤ 1 := by rw [hfr]; split <;> omega
  have hlen : ((B s).drop fr).length = s.size - fr := by rw [List.length_drop, hz]
  have bad : Ev (fun k => registrarref01_Read.j2 k s (fr : Int) true) (0, 12) := by
    refine Ev.step (fun k => registrarref01_Read.j2.eq_2 ..) ?_
    exact ev_pos rfl (Ev.now _)
  refine Ev.step (fun k => registrarref01_Read.j1.eq_2 ..) ?_
  rw [wrap_in (x := (s.size : Int) - (fr : Int)) (by omega) (by omega)]
  unfold readB
  by_cases h1 : (s.size : Int) - (fr : Int) < 1
  · refine ev_pos h1 ?_
    rw [if_pos (.inl (List.eq_nil_of_length_eq_zero (by omega)))]
    exact bad
  · refine ev_neg h1 ?_
    have hne : (B s).drop fr ≠ [] := fun z => by rw [z] at hlen; simp at hlen; omega
    by_cases h2 : (s.size : Int) - (fr : Int) > 19
    · rw [decide_eq_true h2, if_pos (.inr (.inl (by omega)))]
      exact bad
    · rw [decide_eq_false h2]
      refine Ev.step (fun k => registrarref01_Read.j2.eq_2 ..) ?_
      refine ev_neg (by decide) ?_
      have hsplit : B s = (B s).take fr ++ (B s).drop fr := (List.take_append_drop _ _).symm
      have htl : ((B s).take fr).length = fr := by rw [List.length_take]; omega
      have e0 : bt s (fr : Int) = ((B s).drop fr).getD 0 0 := by
        rw [bt_B]
        simp [List.getD_eq_getElem?_getD, List.getElem?_drop]
      -- behind the look
      have cont : digs ((B s).drop fr) = true → Ev (fun k => registrarref01_Read.l0 k s (fr : Int) (s.size : Int)) (if ((B s).drop fr).getD 0 0 = 48 ∧ (((B s).drop fr).length > 1 ∨ below = true) then (0, 12) else tail below (val ((B s).drop fr) 0)) := by
        intro hd
        have good : Ev (fun k => registrarref01_Read.j4 k s (fr : Int) false) (tail below (val ((B s).drop fr) 0)) := by
          refine Ev.step (fun k => registrarref01_Read.j4.eq_2 ..) ?_
          refine ev_neg (by decide) ?_
          rw [tail_res below (val_ge _ hd 0 (by omega))]
          have := rr_l1 s below (fr : Int) hfi.symm ((B s).drop fr) ((B s).take fr) 0 hsplit hs hd (by omega) (by unfold in64 sg; split <;> omega)
          rw [htl, show sg below 0 = 0 by unfold sg; split <;> rfl] at this
          exact this
        refine Ev.step (fun k => registrarref01_Read.l0.eq_2 ..) ?_
        refine ev_neg (by omega) (ev_pos (by omega) (ev_pos (by omega) ?_))
        rw [e0]
        by_cases h3 : ((B s).drop fr).getD 0 0 = 48
        · refine ev_pos h3 ?_
          by_cases h4 : (s.size : Int) > 1
          · rw [decide_eq_true h4, if_pos ⟨h3, by cases below with | true => exact .inr rfl | false => (left; rw [hfr] at hlen ⊢; simp at hlen ⊢; omega)⟩]
            refine Ev.step (fun k => registrarref01_Read.j4.eq_2 ..) ?_
            exact ev_pos rfl (Ev.now _)
          · rw [decide_eq_false h4, if_neg (by rintro ⟨_, z | z⟩; omega; rw [z] at hfr; simp at hfr; omega)]
            exact good
        · refine ev_neg h3 ?_
          rw [if_neg (fun z => h3 z.1)]
          exact good
      have := rr_l0 s (fr : Int) _ ((B s).drop fr) ((B s).take fr) hsplit hs cont
      rw [htl] at this
      by_cases h5 : ((B s).drop fr).getD 0 0 = 48 ∧ (((B s).drop fr).length > 1 ∨ below = true)
      · rw [if_pos (.inr (.inr h5))]
        rw [if_pos h5] at this
        split at this <;> exact this
      · rw [if_neg (by rintro (z | z | z); exact hne z; omega; exact h5 z)]
        rw [if_neg h5] at this
        exact this
theorem rread_f (s : ByteArray) (hs : s.size ≤ 200) : Ev (fun k => registrarref01_Read.f k s) (readS (B s)) := by
  have hz := B_size s
  have e0 : bt s 0 = (B s).getD 0 0 := bt_B s 0
  unfold registrarref01_Read.f readS
  by_cases h1 : (s.size : Int) > 0
  · refine ev_pos h1 (ev_pos (by omega) ?_)
    refine Ev.step (fun k => registrarref01_Read.j0.eq_2 ..) ?_
    by_cases h : (B s).getD 0 0 = 45
    · rw [if_pos h]
      refine ev_pos (by rw [e0, h]; rfl) ?_
      exact rr_j1 s true hs (fun _ => by omega)
    · rw [if_neg h]
      refine ev_neg (fun z => h (by rw [← e0]; exact beq_iff_eq.1 z)) ?_
      exact rr_j1 s false hs (fun z => absurd z (by decide))
  · refine ev_neg h1 ?_
    refine Ev.step (fun k => registrarref01_Read.j0.eq_2 ..) ?_
    have hn : B s = [] := List.eq_nil_of_length_eq_zero (by omega)
    rw [if_neg (by rw [hn]; decide)]
    exact ev_neg (by decide) (rr_j1 s false hs (fun z => absurd z (by decide)))
end Go.Proofs.Ytckdcaidhpjjaaa.Num
