/- Two rows are one just if the document says so; two that may be are one just if their bytes are. -/
import Derived.Test.YtlbjipdkihoojaaStRowsSame
import Derived.Test.YtlbjipdkihoojaaRowsP
namespace Go.Proofs.Ytlbjipdkihoojaa.Pure
set_option linter.unusedVariables false
set_option linter.unusedSimpArgs false
open Go Go.RowKit Go.Proofs.Ytlbjipdkihoojaa.Q Go.Proofs.YtlbjipdkihoojaaW.PrintWords Go.Proofs.Ytlbjipdkihoojaa.Aux Go.Proofs.Ytlbjipdkihoojaa.By Go.Proofs.Ytlbjipdkihoojaa.RowsW Go.Proofs.Ytlbjipdkihoojaa.Open

def sameV (a b : S45) : Bool := (a.f0 == b.f0) && ((a.f1 == b.f1) && (a.f2.toList == b.f2.toList))
theorem sameV_iff {a b : S45} : sameV a b = true ↔ a = b := by
  unfold sameV
  simp only [Bool.and_eq_true, beq_iff_eq, toList_eq_iff]
  constructor
  · rintro ⟨h1, h2, h3⟩
    cases a
    cases b
    simp_all
  · rintro rfl
    exact ⟨rfl, rfl, rfl⟩
def sameL : List S45 → List S45 → Bool
  | [], [] => true
  | x :: a, y :: b => sameV x y && sameL a b
  | _, _ => false
theorem sameL_iff : ∀ {a b : List S45}, sameL a b = true ↔ a = b
  | [], [] => by simp [sameL]
  | [], y :: b => by simp [sameL]
  | x :: a, [] => by simp [sameL]
  | x :: a, y :: b => by
    have := sameL_iff (a := a) (b := b)
    simp only [sameL, Bool.and_eq_true, sameV_iff, this, List.cons.injEq]
theorem not_sameV (x y : S45) : ((!(x.f0 == y.f0)) || ((!(x.f1 == y.f1)) || (!(x.f2.toList == y.f2.toList)))) = !(sameV x y) := by
  unfold sameV
  simp only [Bool.not_and]
theorem equal_l (a b : List S45) (h : a.length = b.length) (ha : a.length ≤ 1000) : ∀ (m i : Nat), i + m = a.length → Ev (fun k => slices_Equal__api_Value_api_Value.l0 k a b a.length i) (sameL (a.drop i) (b.drop i))
  | m, i, hi => by
    refine Ev.step (fun k => slices_Equal__api_Value_api_Value.l0.eq_2 ..) ?_
    cases m with
    | zero =>
      refine ev_neg (by omega) ?_
      rw [List.drop_eq_nil_of_le (by omega), List.drop_eq_nil_of_le (by omega)]
      exact Ev.now _
    | succ m =>
      have h1 : i < a.length := by omega
      have h2 : i < b.length := by omega
      refine ev_pos (by omega) ?_
      refine ev_pos (by omega) ?_
      refine ev_pos (by omega) ?_
      refine ev_pos (by omega) ?_
      rw [rd_at a i h1, rd_at b i h2, List.drop_eq_getElem_cons h1, List.drop_eq_getElem_cons h2, not_sameV]
      simp only [sameL]
      by_cases hh : sameV a[i] b[i] = true
      · refine ev_neg (by simp [hh]) ?_
        rw [wrap_in (by omega) (by omega), hh, Bool.true_and]
        exact equal_l a b h ha m (i + 1) (by omega)
      · refine ev_pos (by simp [hh]) ?_
        refine ev_to (Ev.now _) ?_
        simp [hh]
theorem requal_l (a b : List S45) (h : a.length = b.length) (ha : a.length ≤ 1000) : ∀ (m i : Nat), i + m = a.length → Ev (fun k => registrarref03_Same.l0 k a b i) (sameL (a.drop i) (b.drop i))
  | m, i, hi => by
    refine Ev.step (fun k => registrarref03_Same.l0.eq_2 ..) ?_
    cases m with
    | zero =>
      refine ev_neg (by omega) ?_
      rw [List.drop_eq_nil_of_le (by omega), List.drop_eq_nil_of_le (by omega)]
      exact Ev.now _
    | succ m =>
      have h1 : i < a.length := by omega
      have h2 : i < b.length := by omega
      refine ev_pos (by omega) ?_
      refine ev_pos (by omega) ?_
      refine ev_pos (by omega) ?_
      rw [rd_at a i h1, rd_at b i h2, List.drop_eq_getElem_cons h1, List.drop_eq_getElem_cons h2, not_sameV]
      simp only [sameL]
      by_cases hh : sameV a[i] b[i] = true
      · refine ev_neg (by simp [hh]) ?_
        rw [wrap_in (by omega) (by omega), hh, Bool.true_and]
        exact requal_l a b h ha m (i + 1) (by omega)
      · refine ev_pos (by simp [hh]) ?_
        refine ev_to (Ev.now _) ?_
        simp [hh]
theorem sameL_length {a b : List S45} (h : ¬ a.length = b.length) : sameL a b = false := by
  rw [Bool.eq_false_iff]
  intro h1
  exact h (congrArg List.length (sameL_iff.1 h1))
def sameR (n : Int) (a : List S45) (m : Int) (b : List S45) : Bool := decide (n = m) && sameL a b
theorem same_r (n : Int) (a : List S45) (m : Int) (b : List S45) (ha : a.length ≤ 1000) : Ev (fun k => rows_Same.f k n a m b) (sameR n a m b) := by
  unfold rows_Same.f sameR
  by_cases hn : n = m
  · refine ev_pos hn ?_
    have : Ev (fun k => slices_Equal__api_Value_api_Value.f k a b) (sameL a b) := by
      unfold slices_Equal__api_Value_api_Value.f
      by_cases h : a.length = b.length
      · refine ev_pos (by omega) ?_
        exact equal_l a b h ha a.length 0 (by omega)
      · refine ev_neg (by omega) ?_
        refine ev_to (Ev.now _) ?_
        rw [sameL_length h]
    refine Ev.bind this ?_
    refine ev_to (Ev.now _) ?_
    simp [hn]
  · refine ev_neg hn ?_
    refine ev_to (Ev.now _) ?_
    simp [hn]
theorem rsame_r (n : Int) (a : List S45) (m : Int) (b : List S45) (ha : a.length ≤ 1000) : Ev (fun k => registrarref05_Same.f k n a m b) (sameR n a m b) := by
  unfold registrarref05_Same.f sameR
  by_cases hn : n = m
  · refine ev_pos hn ?_
    have : Ev (fun k => registrarref03_Same.f k a b) (sameL a b) := by
      unfold registrarref03_Same.f
      by_cases h : a.length = b.length
      · refine ev_pos (by omega) ?_
        exact requal_l a b h ha a.length 0 (by omega)
      · refine ev_neg (by omega) ?_
        refine ev_to (Ev.now _) ?_
        rw [sameL_length h]
    refine Ev.bind this ?_
    refine ev_to (Ev.now _) ?_
    simp [hn]
  · refine ev_neg hn ?_
    refine ev_to (Ev.now _) ?_
    simp [hn]
theorem zigzag_inj {a b : Int} (h : Lib.zigzag a = Lib.zigzag b) : a = b := by
  unfold Lib.zigzag at h
  split at h <;> split at h <;> omega
theorem valB_inj {v w : S45} (hk : v.f0 = w.f0) (hv : right v = true) (hw : right w = true) {a b : List Int} (h : valB v ++ a = valB w ++ b) : v = w ∧ a = b := by
  have e : ∀ (v w : S45), v.f0 = w.f0 → v.f1 = w.f1 → v.f2 = w.f2 → v = w := by
    intro v w h1 h2 h3
    cases v
    cases w
    simp_all
  by_cases h0 : v.f0 = 0
  · have g0 : w.f0 = 0 := by omega
    simp only [right, h0, g0, if_true, Bool.and_eq_true, beq_iff_eq] at hv hw
    have e1 : valB v = [] := by simp [valB, h0]
    have e2 : valB w = [] := by simp [valB, g0]
    rw [e1, e2] at h
    exact ⟨e v w hk (by rw [hv.1, hw.1]) (toList_eq_iff.1 (by rw [hv.2, hw.2])), h⟩
  · have g0 : ¬ w.f0 = 0 := by omega
    by_cases h1 : v.f0 = 1
    · have g1 : w.f0 = 1 := by omega
      simp only [right, h0, g0, h1, g1, if_true, if_false, beq_iff_eq] at hv hw
      have e1 : valB v = smallB (Lib.zigzag v.f1) := by simp [valB, h1]
      have e2 : valB w = smallB (Lib.zigzag w.f1) := by simp [valB, g1]
      rw [e1, e2] at h
      have := smallB_inj _ _ _ _ h
      refine ⟨e v w hk (zigzag_inj this.1) (toList_eq_iff.1 ?_), this.2⟩
      simp at hv hw
      rw [hv, hw]
    · have g1 : ¬ w.f0 = 1 := by omega
      by_cases h2 : v.f0 = 2
      · have g2 : w.f0 = 2 := by omega
        simp only [right, h0, g0, h1, g1, h2, g2, if_true, if_false, Bool.and_eq_true, Bool.or_eq_true, beq_iff_eq] at hv hw
        have e1 : valB v = [v.f1 % 256] := by simp [valB, h2]
        have e2 : valB w = [w.f1 % 256] := by simp [valB, g2]
        rw [e1, e2] at h
        simp only [List.cons_append, List.nil_append, List.cons.injEq] at h
        simp at hv hw
        exact ⟨e v w hk (by omega) (toList_eq_iff.1 (by rw [hv.1, hw.1])), h.2⟩
      · have g2 : ¬ w.f0 = 2 := by omega
        have h3 : v.f0 = 3 := by
          have := right_kind hv
          omega
        have g3 : w.f0 = 3 := by omega
        simp only [right, h0, g0, h1, g1, h2, g2, h3, g3, if_true, if_false, Bool.and_eq_true, beq_iff_eq] at hv hw
        have e1 : valB v = (v.f2.size : Int) :: B v.f2 := by simp [valB, h3]
        have e2 : valB w = (w.f2.size : Int) :: B w.f2 := by simp [valB, g3]
        rw [e1, e2] at h
        simp only [List.cons_append, List.cons.injEq] at h
        simp at hv hw
        have hl : (B v.f2).length = (B w.f2).length := by rw [B_size, B_size]; omega
        have := List.append_inj h.2 hl
        exact ⟨e v w hk (by omega) (B_inj this.1), this.2⟩
theorem body_inj : ∀ (l m : List S45), l.length = m.length → kinds l = kinds m → l.all right = true → m.all right = true → bodyB l = bodyB m → l = m
  | [], [], _, _, _, _, _ => rfl
  | [], y :: m, h, _, _, _, _ => by simp at h
  | x :: l, [], h, _, _, _, _ => by simp at h
  | x :: l, y :: m, h, hk, hl, hm, hb => by
    rw [List.all_cons, Bool.and_eq_true] at hl hm
    have k1 := right_kind hl.1
    have k2 := right_kind hm.1
    simp only [kinds] at hk
    simp only [bodyB] at hb
    have := valB_inj (by omega) hl.1 hm.1 hb
    rw [this.1, body_inj l m (by simpa using h) (by omega) hl.2 hm.2 this.2]
theorem put_inj {n m : Int} {l l' : List S45} (h1 : check n l = 0) (h2 : check m l' = 0) (h : (put n l).1 = (put m l').1) : n = m ∧ l = l' := by
  obtain ⟨a1, a2, a3⟩ := check_ok h1
  obtain ⟨b1, b2, b3⟩ := check_ok h2
  unfold put at h
  rw [if_pos h1, if_pos h2] at h
  have h3 := smallB_inj _ _ _ _ h
  have h4 := h3.2
  simp only [List.cons_append, List.nil_append, List.cons.injEq] at h4
  obtain ⟨c1, c2, c3, c4⟩ := h4
  exact ⟨by omega, body_inj l l' (by omega) (by omega) a3 b3 c4⟩
theorem last_f (n m : Int) (a b : List S45) (ha : a.length ≤ 10) (hb : b.length ≤ 10) (hn : in64 n) (hm : in64 m) (h64 : ∀ v ∈ a, in64 v.f1) (h64b : ∀ v ∈ b, in64 v.f1) : Ev (fun k => registrarlaw05_RowsSame.j1 k (put n a).1 (put n a).2 (put m b).1 (put m b).2 false n a m b) true := by
  refine Ev.step (fun k => registrarlaw05_RowsSame.j1.eq_2 ..) ?_
  refine ev_neg (by simp) ?_
  have c1 : (put n a).2 = check n a := by unfold put; split <;> simp_all
  have c2 : (put m b).2 = check m b := by unfold put; split <;> simp_all
  by_cases h1 : check n a = 0
  · refine ev_pos (by rw [c1]; exact h1) ?_
    by_cases h2 : check m b = 0
    · refine ev_pos (by rw [c2]; exact h2) ?_
      refine Ev.bind (same_r n a m b (by omega)) ?_
      have := put_len n a hn h64
      refine Ev.bind (same_f _ _ (by omega)) ?_
      refine ev_pos ?_ (Ev.bind works_f (Ev.now _))
      rw [beq_iff_eq, Bool.eq_iff_iff]
      unfold sameR
      simp only [Bool.and_eq_true, decide_eq_true_eq, sameL_iff]
      constructor
      · rintro ⟨rfl, rfl⟩
        rfl
      · intro h
        exact put_inj h1 h2 h
    · refine ev_neg (by rw [c2]; exact h2) ?_
      exact Ev.bind works_f (Ev.now _)
  · refine ev_neg (by rw [c1]; exact h1) ?_
    exact Ev.bind works_f (Ev.now _)
theorem RowsSame : registrarlaw05_RowsSame.Pure := by
  intro x y hx hy
  have h64 : ∀ v ∈ x.f1, in64 v.f1 := fun v hv => in64_wf (hx.2.2 v hv).2.1
  have hn : in64 x.f0 := in64_wf hx.1
  have h64b : ∀ v ∈ y.f1, in64 v.f1 := fun v hv => in64_wf (hy.2.2 v hv).2.1
  have hm : in64 y.f0 := in64_wf hy.1
  refine Ev.rounds (g := fun k => registrarlaw05_RowsSame.f k x.f0 x.f1 y.f0 y.f1) ?_
  unfold registrarlaw05_RowsSame.f
  refine Ev.bind (large_f x.f0 x.f1 hx.2.1) ?_
  by_cases h : large x.f1 = true
  · refine ev_pos h ?_
    refine Ev.step (fun k => registrarlaw05_RowsSame.j0.eq_2 ..) ?_
    refine ev_pos rfl ?_
    exact Ev.bind works_f (Ev.now _)
  · refine ev_neg h ?_
    refine Ev.bind (large_f y.f0 y.f1 hy.2.1) ?_
    refine Ev.step (fun k => registrarlaw05_RowsSame.j0.eq_2 ..) ?_
    by_cases g : large y.f1 = true
    · refine ev_pos g ?_
      exact Ev.bind works_f (Ev.now _)
    · refine ev_neg g ?_
      have hl := (large_not h).1
      have gl := (large_not g).1
      refine Ev.bind (put_f x.f0 x.f1 hn (by omega) h64) ?_
      refine Ev.bind (put_f y.f0 y.f1 hm (by omega) h64b) ?_
      refine Ev.bind (same_r _ _ _ _ (by omega)) ?_
      refine Ev.bind (rsame_r _ _ _ _ (by omega)) ?_
      refine ev_neg (by simp) ?_
      refine Ev.bind (same_r _ _ _ _ (by omega)) ?_
      have e : sameR x.f0 x.f1 x.f0 x.f1 = true := by
        unfold sameR
        simp [sameL_iff]
      rw [e]
      exact last_f x.f0 y.f0 x.f1 y.f1 hl gl hn hm h64 h64b
end Go.Proofs.Ytlbjipdkihoojaa.Pure
