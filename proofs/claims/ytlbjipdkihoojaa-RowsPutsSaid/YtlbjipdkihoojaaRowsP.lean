/- Both ways of putting a row come to the same bytes. -/
import Derived.Test.YtlbjipdkihoojaaRowsB
namespace Go.Proofs.Ytlbjipdkihoojaa.RowsW
set_option linter.unusedVariables false
set_option linter.unusedSimpArgs false
open Go Go.RowKit Go.Proofs.Ytlbjipdkihoojaa.Q Go.Proofs.YtlbjipdkihoojaaW.PrintWords Go.Proofs.Ytlbjipdkihoojaa.Aux Go.Proofs.Ytlbjipdkihoojaa.By

theorem all_at {l : List S45} (h : l.all right = true) (i : Nat) (hi : i < l.length) : right l[i] = true := List.all_eq_true.1 h _ (List.getElem_mem hi)
theorem index_w {i : Nat} (h : i ≤ 1000) : wrap64 ((i : Int) + 1) = ((i + 1 : Nat) : Int) ∧ 0 ≤ IntKind.u64.wrap (wrap64 (2 * (i : Int))) := by
  refine ⟨?_, ?_⟩
  · rw [wrap_in (by omega) (by omega)]
    omega
  · rw [wrap_in (by omega) (by omega), wrap_u64 (by omega) (by omega)]
    omega
/-- the values' bytes -/
theorem body_l (l : List S45) (hl : l.length ≤ 6) (hr : l.all right = true) (h64 : ∀ v ∈ l, in64 v.f1) : ∀ (m i : Nat) (acc : List Int), i + m = l.length → acc.length ≤ 13 + 40 * i → Ev (fun k => rows_Put.l1 k acc l l.length i) (acc ++ bodyB (l.drop i), 0)
  | m, i, acc, hi, ha => by
    refine Ev.step (fun k => rows_Put.l1.eq_2 ..) ?_
    cases m with
    | zero =>
      refine ev_neg (by omega) ?_
      rw [List.drop_eq_nil_of_le (by omega)]
      refine ev_to (Ev.now _) ?_
      simp [bodyB]
    | succ m =>
      have hlt : i < l.length := by omega
      have hrv := all_at hr i hlt
      have h64v := h64 l[i] (List.getElem_mem hlt)
      have hlen := valB_len hrv h64v
      have hk := right_kind hrv
      have hs := fun h3 => right_size hrv h3
      rw [rd_at l i hlt, List.drop_eq_getElem_cons hlt]
      simp only [bodyB]
      obtain ⟨v, hv⟩ : ∃ v, l[i] = v := ⟨_, rfl⟩
      rw [hv] at hrv h64v hlen hk hs ⊢
      have hw : wrap64 ((i : Int) + 1) = ((i + 1 : Nat) : Int) := by rw [wrap_in (by omega) (by omega)]; omega
      simp only [hw]
      refine ev_pos (by omega) ?_
      refine ev_pos (by omega) ?_
      refine ev_pos (by omega) ?_
      by_cases h1 : v.f0 = 1
      · refine ev_pos h1 ?_
        have hvB : valB v = smallB (Lib.zigzag v.f1) := by unfold valB; rw [if_pos h1]
        rw [hvB] at hlen ⊢
        refine ev_one (turned_f h64v) ?_
        refine Ev.bind (small_f _ acc (by omega)) ?_
        refine ev_to (body_l l hl hr h64 m (i + 1) _ (by omega) (by rw [List.length_append]; omega)) ?_
        rw [List.append_assoc]
      · refine ev_neg h1 ?_
        by_cases h2 : v.f0 = 2
        · refine ev_pos h2 ?_
          have hvB : valB v = [v.f1 % 256] := by unfold valB; rw [if_neg h1, if_pos h2]
          rw [hvB]
          refine ev_pos (by omega) ?_
          refine ev_to (body_l l hl hr h64 m (i + 1) _ (by omega) (by rw [List.length_append]; simp; omega)) ?_
          rw [List.append_assoc]
        · refine ev_neg h2 ?_
          by_cases h3 : v.f0 = 3
          · have hsz := hs h3
            have hb := B_size v.f2
            refine ev_pos h3 ?_
            have hvB : valB v = (v.f2.size : Int) :: B v.f2 := by unfold valB; rw [if_neg h1, if_neg h2, if_pos h3]
            rw [hvB]
            refine ev_pos (by omega) ?_
            refine ev_one rfl ?_
            refine ev_pos (by simp; omega) ?_
            rw [show (v.f2.size : Int) % 256 = v.f2.size by omega]
            refine ev_to (body_l l hl hr h64 m (i + 1) _ (by omega) (by simp only [List.length_append, List.length_cons, List.length_nil]; show _ + (B v.f2).length ≤ _; omega)) ?_
            simp
          · refine ev_neg h3 ?_
            have hvB : valB v = [] := by unfold valB; rw [if_neg h1, if_neg h2, if_neg h3]
            rw [hvB]
            refine ev_to (body_l l hl hr h64 m (i + 1) _ (by omega) (by omega)) ?_
            simp
theorem kinds_l (n : Int) (l : List S45) (hl : l.length ≤ 6) (hr : l.all right = true) (h64 : ∀ v ∈ l, in64 v.f1) (acc : List Int) (ha : acc.length ≤ 10) : ∀ (m i : Nat), i + m = l.length → Ev (fun k => rows_Put.l0 k acc (kinds (l.take i) : Nat) l l.length i n l) (acc ++ ([(l.length : Int), ((kinds l % 256 : Nat) : Int), ((kinds l / 256 : Nat) : Int)] ++ bodyB l), 0)
  | m, i, hi => by
    have h3 : ∀ (l : List S45), l.all right = true → ∀ v ∈ l, v.f0.toNat ≤ 3 := by
      intro l hr v hv
      have := right_kind (List.all_eq_true.1 hr v hv)
      omega
    refine Ev.step (fun k => rows_Put.l0.eq_2 ..) ?_
    cases m with
    | zero =>
      have : i = l.length := by omega
      subst this
      rw [List.take_length]
      have hk := kinds_lt l (h3 l hr)
      have hp : (4 : Nat) ^ l.length ≤ 4 ^ 6 := Nat.pow_le_pow_right (by omega) hl
      refine ev_neg (by omega) ?_
      refine ev_one rfl ?_
      refine ev_pos (by simp only [List.length_cons, List.length_nil]; omega) ?_
      have e : (l.length : Int) % 256 = l.length := by omega
      have e1 : ((kinds l : Nat) : Int) % 256 = ((kinds l % 256 : Nat) : Int) := by omega
      have e2 : ((kinds l : Nat) : Int) / 256 % 256 = ((kinds l / 256 : Nat) : Int) := by omega
      rw [e, e1, e2]
      have := body_l l hl hr h64 l.length 0 (acc ++ [(l.length : Int), ((kinds l % 256 : Nat) : Int), ((kinds l / 256 : Nat) : Int)]) (by omega) (by simp only [List.length_append, List.length_cons, List.length_nil]; omega)
      refine ev_to this ?_
      simp
    | succ m =>
      have hlt : i < l.length := by omega
      have hrv := right_kind (all_at hr i hlt)
      have hi5 : i ≤ 5 := by omega
      have q1 : (i : Int) < (l.length : Int) := by omega
      have q2 : (0 : Int) ≤ (i : Int) := by omega
      have q3 : i + 1 + m = l.length := by omega
      have q4 := index_w (i := i) (by omega)
      have htk : l.take (i + 1) = l.take i ++ [l[i]] := by simp
      have hkt := kinds_lt (l.take i) (fun v hv => h3 l hr v (List.mem_of_mem_take hv))
      have hka := kinds_append (l.take i) l[i]
      have hln : (l.take i).length = i := by rw [List.length_take]; omega
      rw [hln] at hkt hka
      rw [← htk] at hka
      rw [rd_at l i hlt]
      obtain ⟨v, hv⟩ : ∃ v, l[i] = v := ⟨_, rfl⟩
      rw [hv] at hrv hka ⊢
      obtain ⟨K, hK⟩ := Int.eq_ofNat_of_zero_le hrv.1
      rw [hK] at hka hrv
      have hs := shl_f K i (by omega) hi5 (kinds (l.take i)) hkt
      rw [Int.toNat_natCast] at hka
      rw [← hka] at hs
      rw [hK]
      simp only [q4.1]
      refine ev_pos q1 ?_
      refine ev_pos q2 ?_
      refine ev_pos q1 ?_
      refine ev_pos q4.2 ?_
      rw [hs]
      exact kinds_l n l hl hr h64 acc ha m (i + 1) q3
theorem check_ok {n : Int} {l : List S45} (h : check n l = 0) : l.length ≤ 6 ∧ 0 ≤ n ∧ l.all right = true := by
  unfold check at h
  split at h
  · omega
  · split at h
    · omega
    · split at h
      · rename_i h1 h2 h3
        exact ⟨by omega, by omega, h3⟩
      · omega
theorem put_f (n : Int) (l : List S45) (hn : in64 n) (hl : l.length ≤ 1000) (h64 : ∀ v ∈ l, in64 v.f1) : Ev (fun k => rows_Put.f k n l) (put n l) := by
  unfold rows_Put.f put
  refine Ev.bind (check_f n l hl) ?_
  by_cases h : check n l = 0
  · refine ev_pos h ?_
    rw [if_pos h]
    obtain ⟨h1, h2, h3⟩ := check_ok h
    obtain ⟨N, rfl⟩ := Int.eq_ofNat_of_zero_le h2
    unfold in64 at hn
    rw [wrap_u64 (by omega) (by omega)]
    have hlen := smallB_len64 (n := N) (by omega)
    refine Ev.bind (small_f N [] (by simp only [List.length_nil]; omega)) ?_
    have := kinds_l N l h1 h3 h64 ([] ++ smallB N) (by simpa using hlen) l.length 0 (by omega)
    rw [List.nil_append] at this
    exact this
  · refine ev_neg h ?_
    rw [if_neg h]
    exact Ev.now _
/-- the reference's text, byte for byte -/
theorem rtext_l (v : S45) (hv : v.f2.size ≤ 1000) (i : Int) (n : Int) (l : List S45) (r : List Int × Int) : ∀ (m j : Nat) (acc : List Int), j + m = v.f2.size → acc.length ≤ 1000000 + j → Ev (fun k => registrarref05_Put.l1 k (acc ++ (B v.f2).drop j) (wrap64 (i + 1)) n l) r → Ev (fun k => registrarref05_Put.l2 k acc i j n l v.f0 v.f1 v.f2) r
  | m, j, acc, hj, ha, hr => by
    have hb := B_size v.f2
    refine Ev.step (fun k => registrarref05_Put.l2.eq_2 ..) ?_
    cases m with
    | zero =>
      refine ev_neg (by omega) ?_
      rw [List.drop_eq_nil_of_le (by omega), List.append_nil] at hr
      exact hr
    | succ m =>
      refine ev_pos (by omega) ?_
      refine ev_pos (by omega) ?_
      refine ev_pos (by omega) ?_
      rw [B_at v.f2 j (by omega), wrap_in (by omega) (by omega)]
      refine rtext_l v hv i n l r m (j + 1) _ (by omega) (by simp only [List.length_append, List.length_cons, List.length_nil]; omega) ?_
      rw [List.drop_eq_getElem_cons (by omega : j < (B v.f2).length)] at hr
      rw [List.append_assoc]
      exact hr
theorem rbody_l (n : Int) (l : List S45) (hl : l.length ≤ 6) (hr : l.all right = true) (h64 : ∀ v ∈ l, in64 v.f1) : ∀ (m i : Nat) (acc : List Int), i + m = l.length → acc.length ≤ 13 + 40 * i → Ev (fun k => registrarref05_Put.l1 k acc i n l) (acc ++ bodyB (l.drop i), 0)
  | m, i, acc, hi, ha => by
    refine Ev.step (fun k => registrarref05_Put.l1.eq_2 ..) ?_
    cases m with
    | zero =>
      refine ev_neg (by omega) ?_
      rw [List.drop_eq_nil_of_le (by omega)]
      refine ev_to (Ev.now _) ?_
      simp [bodyB]
    | succ m =>
      have hlt : i < l.length := by omega
      have hrv := all_at hr i hlt
      have h64v := h64 l[i] (List.getElem_mem hlt)
      have hlen := valB_len hrv h64v
      have hs := fun h3 => right_size hrv h3
      rw [rd_at l i hlt, List.drop_eq_getElem_cons hlt]
      simp only [bodyB]
      obtain ⟨v, hv⟩ : ∃ v, l[i] = v := ⟨_, rfl⟩
      rw [hv] at hrv h64v hlen hs ⊢
      have hw : wrap64 ((i : Int) + 1) = ((i + 1 : Nat) : Int) := by rw [wrap_in (by omega) (by omega)]; omega
      refine ev_pos (by omega) ?_
      refine ev_pos (by omega) ?_
      by_cases h1 : v.f0 = 1
      · refine ev_pos h1 ?_
        have hvB : valB v = smallB (Lib.zigzag v.f1) := by unfold valB; rw [if_pos h1]
        rw [hvB] at hlen ⊢
        refine ev_one (rturned_f h64v) ?_
        refine Ev.bind (rsmall_f _ (Lib.zigzag_lt h64v.1 h64v.2)) ?_
        refine ev_pos (by omega) ?_
        rw [hw]
        refine ev_to (rbody_l n l hl hr h64 m (i + 1) _ (by omega) (by rw [List.length_append]; omega)) ?_
        rw [List.append_assoc]
      · refine ev_neg h1 ?_
        by_cases h2 : v.f0 = 2
        · refine ev_pos h2 ?_
          have hvB : valB v = [v.f1 % 256] := by unfold valB; rw [if_neg h1, if_pos h2]
          rw [hvB]
          refine ev_pos (by omega) ?_
          rw [hw]
          refine ev_to (rbody_l n l hl hr h64 m (i + 1) _ (by omega) (by rw [List.length_append]; simp; omega)) ?_
          rw [List.append_assoc]
        · refine ev_neg h2 ?_
          by_cases h3 : v.f0 = 3
          · have hsz := hs h3
            have hb := B_size v.f2
            refine ev_pos h3 ?_
            have hvB : valB v = (v.f2.size : Int) :: B v.f2 := by unfold valB; rw [if_neg h1, if_neg h2, if_pos h3]
            rw [hvB]
            refine ev_pos (by omega) ?_
            rw [show (v.f2.size : Int) % 256 = v.f2.size by omega]
            refine rtext_l v (by omega) i n l _ v.f2.size 0 _ (by omega) (by simp only [List.length_append, List.length_cons, List.length_nil]; omega) ?_
            rw [hw, List.drop_zero]
            refine ev_to (rbody_l n l hl hr h64 m (i + 1) _ (by omega) (by simp only [List.length_append, List.length_cons, List.length_nil]; omega)) ?_
            simp
          · refine ev_neg h3 ?_
            have hvB : valB v = [] := by unfold valB; rw [if_neg h1, if_neg h2, if_neg h3]
            rw [hvB, hw]
            refine ev_to (rbody_l n l hl hr h64 m (i + 1) _ (by omega) (by omega)) ?_
            simp
theorem rkinds_l (N : Nat) (hN : N < 9223372036854775808) (l : List S45) (hl : l.length ≤ 6) (hr : l.all right = true) (h64 : ∀ v ∈ l, in64 v.f1) : ∀ (i : Nat), i ≤ l.length → Ev (fun k => registrarref05_Put.l0 k (kinds (l.drop i) : Nat) ((i : Int) - 1) N l) (smallB N ++ ([(l.length : Int), ((kinds l % 256 : Nat) : Int), ((kinds l / 256 : Nat) : Int)] ++ bodyB l), 0)
  | i, hi => by
    have h3 : ∀ v ∈ l, v.f0.toNat ≤ 3 := by
      intro v hv
      have := right_kind (List.all_eq_true.1 hr v hv)
      omega
    refine Ev.step (fun k => registrarref05_Put.l0.eq_2 ..) ?_
    cases i with
    | zero =>
      rw [List.drop_zero]
      have hk := kinds_lt l h3
      have hp : (4 : Nat) ^ l.length ≤ 4 ^ 6 := Nat.pow_le_pow_right (by omega) hl
      refine ev_neg (by omega) ?_
      rw [wrap_u64 (by omega) (by omega)]
      refine Ev.bind (rsmall_f N (by omega)) ?_
      have hlen := smallB_len64 (n := N) (by omega)
      refine ev_one rfl ?_
      refine ev_pos (by simp only [List.length_cons, List.length_nil]; omega) ?_
      have e : (l.length : Int) % 256 = l.length := by omega
      have e1 : Int.tmod ((kinds l : Nat) : Int) 256 % 256 = ((kinds l % 256 : Nat) : Int) := by
        rw [Int.tmod_eq_emod_of_nonneg (by omega)]
        omega
      have e2 : wrap64 (Int.tdiv ((kinds l : Nat) : Int) 256) % 256 = ((kinds l / 256 : Nat) : Int) := by
        rw [Int.tdiv_eq_ediv_of_nonneg (by omega), wrap_in (by omega) (by omega)]
        omega
      rw [e, e1, e2]
      have := rbody_l N l hl hr h64 l.length 0 (smallB N ++ [(l.length : Int), ((kinds l % 256 : Nat) : Int), ((kinds l / 256 : Nat) : Int)]) (by omega) (by simp only [List.length_append, List.length_cons, List.length_nil]; omega)
      refine ev_to this ?_
      simp
    | succ i =>
      have hlt : i < l.length := by omega
      have hrv := right_kind (all_at hr i hlt)
      have hkt := kinds_lt (l.drop (i + 1)) (fun v hv => h3 v (List.mem_of_mem_drop hv))
      have hp : (4 : Nat) ^ (l.drop (i + 1)).length ≤ 4 ^ 6 := Nat.pow_le_pow_right (by omega) (by rw [List.length_drop]; omega)
      have e0 : (((i + 1 : Nat) : Int) - 1) = (i : Int) := by omega
      have hd := List.drop_eq_getElem_cons hlt
      have ih := rkinds_l N hN l hl hr h64 i (by omega)
      rw [hd] at ih
      simp only [kinds] at ih
      rw [e0, rd_at l i hlt]
      obtain ⟨v, hv⟩ : ∃ v, l[i] = v := ⟨_, rfl⟩
      rw [hv] at hrv ih ⊢
      have e1 : wrap64 (wrap64 (4 * ((kinds (l.drop (i + 1)) : Nat) : Int)) + v.f0) = ((v.f0.toNat + 4 * kinds (l.drop (i + 1)) : Nat) : Int) := by
        rw [wrap_in (x := 4 * _) (by omega) (by omega), wrap_in (by omega) (by omega)]
        omega
      have e2 : wrap64 ((i : Int) - 1) = (i : Int) - 1 := wrap_in (by omega) (by omega)
      refine ev_pos (by omega) ?_
      refine ev_pos (by omega) ?_
      refine ev_pos (by omega) ?_
      rw [e1, e2]
      exact ih
theorem rput_f (n : Int) (l : List S45) (hn : in64 n) (hl : l.length ≤ 1000) (h64 : ∀ v ∈ l, in64 v.f1) : Ev (fun k => registrarref05_Put.f k n l) (put n l) := by
  unfold registrarref05_Put.f put
  refine Ev.bind (rcheck_f n l hl) ?_
  by_cases h : check n l = 0
  · refine ev_pos h ?_
    rw [if_pos h]
    obtain ⟨h1, h2, h3⟩ := check_ok h
    obtain ⟨N, rfl⟩ := Int.eq_ofNat_of_zero_le h2
    unfold in64 at hn
    have := rkinds_l N (by omega) l h1 h3 h64 l.length (Nat.le_refl _)
    rw [List.drop_eq_nil_of_le (Nat.le_refl _)] at this
    rw [wrap_in (by omega) (by omega)]
    exact this
  · refine ev_neg h ?_
    rw [if_neg h]
    exact Ev.now _
theorem put_len (n : Int) (l : List S45) (hn : in64 n) (h64 : ∀ v ∈ l, in64 v.f1) : (put n l).1.length ≤ 1000 := by
  unfold put
  by_cases h : check n l = 0
  · rw [if_pos h]
    obtain ⟨h1, h2, h3⟩ := check_ok h
    unfold in64 at hn
    have hlen := smallB_len64 (n := n.toNat) (by omega)
    have hb : ∀ (l : List S45), l.all right = true → (∀ v ∈ l, in64 v.f1) → (bodyB l).length ≤ 40 * l.length := by
      intro l
      induction l with
      | nil => intro _ _; simp [bodyB]
      | cons v t ih =>
        intro hr h64
        rw [List.all_cons, Bool.and_eq_true] at hr
        have h1 := valB_len hr.1 (h64 v List.mem_cons_self)
        have h2 := ih hr.2 (fun x hx => h64 x (List.mem_cons_of_mem _ hx))
        simp only [bodyB, List.length_append, List.length_cons]
        omega
    have := hb l h3 h64
    simp only [List.length_append, List.length_cons, List.length_nil]
    omega
  · rw [if_neg h]
    simp
theorem size_f (n : Int) (l : List S45) (hn : in64 n) (hl : l.length ≤ 1000) (h64 : ∀ v ∈ l, in64 v.f1) : Ev (fun k => rows_Size.f k n l) ((put n l).1.length : Int) := by
  unfold rows_Size.f
  refine Ev.bind (put_f n l hn hl h64) ?_
  exact Ev.now _
theorem same_l (a b : List Int) (h : a.length = b.length) (ha : a.length ≤ 100000) : ∀ (m i : Nat), i + m = a.length → Ev (fun k => registrarref04_Same.l0 k a b i) (decide (a.drop i = b.drop i))
  | m, i, hi => by
    refine Ev.step (fun k => registrarref04_Same.l0.eq_2 ..) ?_
    cases m with
    | zero =>
      refine ev_neg (by omega) ?_
      rw [List.drop_eq_nil_of_le (by omega), List.drop_eq_nil_of_le (by omega)]
      exact Ev.now _
    | succ m =>
      refine ev_pos (by omega) ?_
      refine ev_pos (by omega) ?_
      refine ev_pos (by omega) ?_
      have e1 : rd a (i : Int) = a[i]'(by omega) := by simp [rd, List.getD_eq_getElem?_getD, show i < a.length by omega]
      have e2 : rd b (i : Int) = b[i]'(by omega) := by simp [rd, List.getD_eq_getElem?_getD, show i < b.length by omega]
      rw [e1, e2, List.drop_eq_getElem_cons (by omega : i < a.length), List.drop_eq_getElem_cons (by omega : i < b.length)]
      by_cases hh : a[i]'(by omega) = b[i]'(by omega)
      · refine ev_pos hh ?_
        rw [wrap_in (by omega) (by omega)]
        refine ev_to (same_l a b h ha m (i + 1) (by omega)) ?_
        simp only [List.cons.injEq, hh, true_and]
      · refine ev_neg hh ?_
        refine ev_to (Ev.now _) ?_
        simp only [List.cons.injEq, hh, false_and, decide_false]
theorem same_f (a b : List Int) (ha : a.length ≤ 100000) : Ev (fun k => registrarref04_Same.f k a b) (decide (a = b)) := by
  unfold registrarref04_Same.f
  by_cases h : a.length = b.length
  · refine ev_pos (by omega) ?_
    exact same_l a b h ha a.length 0 (by omega)
  · refine ev_neg (by omega) ?_
    refine ev_to (Ev.now _) ?_
    symm
    rw [decide_eq_false_iff_not]
    intro e
    exact h (congrArg List.length e)
theorem works_f : Ev (fun k => registrarlaw05_works.f k) true := by
  unfold registrarlaw05_works.f
  have h1 := put_f 1 [(⟨1, (-1), (⟨#[]⟩ : ByteArray)⟩ : S45), (⟨0, 0, (⟨#[]⟩ : ByteArray)⟩ : S45)] ⟨by omega, by omega⟩ (by decide) (by
    intro v hv
    simp only [List.mem_cons, List.not_mem_nil, or_false] at hv
    rcases hv with rfl | rfl <;> exact ⟨by decide, by decide⟩)
  have e : put 1 [(⟨1, (-1), (⟨#[]⟩ : ByteArray)⟩ : S45), (⟨0, 0, (⟨#[]⟩ : ByteArray)⟩ : S45)] = ([1, 2, 1, 0, 1], 0) := by
    have hn : (⟨#[]⟩ : ByteArray).toList = ([] : List UInt8) := (toList_nil_iff _).2 rfl
    have hc : check 1 [(⟨1, (-1), (⟨#[]⟩ : ByteArray)⟩ : S45), (⟨0, 0, (⟨#[]⟩ : ByteArray)⟩ : S45)] = 0 := by
      simp [check, right, hn]
    unfold put
    rw [if_pos hc]
    have e1 : smallB 1 = [1] := smallB_one (by decide)
    have e2 : smallB (Lib.zigzag (-1)) = [1] := smallB_one (by decide)
    simp [e1, e2, bodyB, valB, kinds]
  rw [e] at h1
  refine Ev.bind h1 ?_
  refine ev_pos rfl ?_
  refine Ev.bind (same_f _ _ (by decide)) ?_
  refine ev_pos (by decide) ?_
  refine Ev.bind (size_f 0 [] ⟨by omega, by omega⟩ (by decide) (by intro v hv; cases hv)) ?_
  have e3 : (put 0 []).1.length = 4 := by
    have hc : check 0 [] = 0 := by simp [check]
    unfold put
    rw [if_pos hc]
    have e1 : smallB 0 = [0] := smallB_one (by decide)
    simp [e1, bodyB]
  rw [e3]
  exact Ev.now _
end Go.Proofs.Ytlbjipdkihoojaa.RowsW
