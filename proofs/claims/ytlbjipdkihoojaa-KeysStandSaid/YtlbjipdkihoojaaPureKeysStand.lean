/- Bytes stand as the values do; of lists of which one begins the other one the bytes do; what begins with a list's bytes is ahead of what comes above them, and not ahead of them. -/
import Derived.Test.YtlbjipdkihoojaaStKeysStand
import Derived.Test.YtlbjipdkihoojaaKeysLess
namespace Go.Proofs.Ytlbjipdkihoojaa.Pure
set_option linter.unusedVariables false
set_option linter.unusedSimpArgs false
open Go Go.RowKit Go.Proofs.Ytlbjipdkihoojaa.Q Go.Proofs.YtlbjipdkihoojaaW.PrintWords Go.Proofs.Ytlbjipdkihoojaa.Aux Go.Proofs.Ytlbjipdkihoojaa.By Go.Proofs.Ytlbjipdkihoojaa.KeysW Go.Proofs.Ytlbjipdkihoojaa.Open

theorem stand_j6 {x y : List S45} (hx : x.all right = true) (hy : y.all right = true) (lx : x.length ≤ 6) (ly : y.length ≤ 6) : Ev (fun k => registrarlaw04_KeysStand.j6 k (bodyB x) (bodyB y)) true := by
  have hlx := bodyB_len hx
  have hly := bodyB_len hy
  have bx := bodyB_isB hx
  have by_ := bodyB_isB hy
  refine Ev.step (fun k => registrarlaw04_KeysStand.j6.eq_2 ..) ?_
  by_cases h0 : bodyB x = []
  · rw [h0]
    refine Ev.bind next_nil ?_
    refine ev_pos rfl ?_
    refine ev_pos rfl ?_
    exact Ev.bind works_f (Ev.now _)
  · obtain ⟨q, c, j, e, c0, c1⟩ := body_split hx h0
    have hn := below_next q (bodyB y) c j by_
    have hbe := begins_f (bodyB y) (bodyB x) by_ bx
    have hlen : (bodyB x).length = q.length + 1 + j := by rw [e]; simp; omega
    have hbl := below_f (bodyB y) (bodyB x) (by omega) (by omega)
    have hnx := next_f q c j c0 c1 (by omega)
    rw [← e] at hn hnx
    refine Ev.bind hnx ?_
    refine ev_neg (by omega) ?_
    refine Ev.bind (below_f (bodyB y) (q ++ [c + 1]) (by omega) (by simp; omega)) ?_
    by_cases h1 : below (bodyB y) (q ++ [c + 1]) = true
    · rw [h1, Bool.true_and] at hn
      refine ev_pos h1 ?_
      refine Ev.bind hbl ?_
      refine ev_one hbe ?_
      refine ev_pos (by rw [hn]; simp) ?_
      exact Ev.bind works_f (Ev.now _)
    · have h1' : below (bodyB y) (q ++ [c + 1]) = false := by simpa using h1
      rw [h1', Bool.false_and] at hn
      refine ev_neg h1 ?_
      refine ev_one hbe ?_
      refine ev_pos (by rw [← hn]; rfl) ?_
      exact Ev.bind works_f (Ev.now _)
theorem begins_of_take {x y : List S45} {k : Nat} (h : x.take k = y.take k) (hk : k = x.length) : begins (bodyB y) (bodyB x) = true := by
  subst hk
  rw [List.take_length] at h
  have e : bodyB y = bodyB x ++ bodyB (y.drop x.length) := by
    rw [h, ← bodyB_append]
    have hl := congrArg List.length h
    rw [← h]
    have := List.take_append_drop x.length y
    rw [← h] at this
    rw [this]
  rw [e]
  exact begins_app _ _
theorem stand_j3 {x y : List S45} (hx : x.all right = true) (hy : y.all right = true) (ix : ∀ v ∈ x, in64 v.f1) (iy : ∀ v ∈ y, in64 v.f1) (lx : x.length ≤ 6) (ly : y.length ≤ 6) (i : Nat) (ht : x.take i = y.take i) (hix : i ≤ x.length) (hiy : i ≤ y.length)
    (hd : ∀ (h1 : i < x.length) (h2 : i < y.length), x[i] ≠ y[i]) : Ev (fun k => registrarlaw04_KeysStand.j3 k x y (bodyB x) (bodyB y) i) true := by
  have hlx := bodyB_len hx
  have hly := bodyB_len hy
  have bx := bodyB_isB hx
  have by_ := bodyB_isB hy
  have b1 := begins_f (bodyB y) (bodyB x) by_ bx
  have b2 := begins_f (bodyB x) (bodyB y) bx by_
  have h6 := stand_j6 hx hy lx ly
  have h5 : Ev (fun k => registrarlaw04_KeysStand.j5 k x y (bodyB x) (bodyB y) i false) true := by
    refine Ev.step (fun k => registrarlaw04_KeysStand.j5.eq_2 ..) ?_
    refine ev_neg (by decide) ?_
    by_cases h1 : i < x.length
    · refine ev_pos (by omega) ?_
      by_cases h2 : i < y.length
      · refine ev_pos (by omega) ?_
        have hxi := hd h1 h2
        have mx := List.getElem_mem h1
        have my := List.getElem_mem h2
        have hp := one_parts x[i] y[i] (List.all_eq_true.1 hx _ mx) (List.all_eq_true.1 hy _ my) (ix _ mx) (iy _ my) hxi
        have hP : Parts (bodyB x) (bodyB y) (less x[i] y[i]) := by
          have ex : bodyB x = bodyB (x.take i) ++ (oneB x[i] ++ bodyB (x.drop (i + 1))) := by
            rw [show oneB x[i] ++ bodyB (x.drop (i + 1)) = bodyB (x.drop i) by rw [List.drop_eq_getElem_cons h1]; rfl, ← bodyB_append, List.take_append_drop]
          have ey : bodyB y = bodyB (y.take i) ++ (oneB y[i] ++ bodyB (y.drop (i + 1))) := by
            rw [show oneB y[i] ++ bodyB (y.drop (i + 1)) = bodyB (y.drop i) by rw [List.drop_eq_getElem_cons h2]; rfl, ← bodyB_append, List.take_append_drop]
          rw [ex, ey, ht]
          exact (hp.app _ _).pre _
        have hbl := below_f (bodyB x) (bodyB y) (by omega) (by omega)
        rw [hP.below] at hbl
        refine Ev.bind hbl ?_
        refine ev_pos (by omega) ?_
        rw [rd_at x i h1, rd_at y i h2]
        refine ev_one (less_f _ _) ?_
        refine ev_neg (by simp) ?_
        refine Ev.bind (same_f _ _ (by omega)) ?_
        refine ev_neg (by simpa using hP.ne) ?_
        refine ev_one b2 ?_
        refine ev_neg (by simp [hP.begins.1]) ?_
        refine ev_one b1 ?_
        refine ev_neg (by simp [hP.begins.2]) ?_
        exact h6
      · refine ev_neg (by omega) ?_
        exact h6
    · refine ev_neg (by omega) ?_
      exact h6
  have h4 : Ev (fun k => registrarlaw04_KeysStand.j4 k x y (bodyB x) (bodyB y) i false) true := by
    refine Ev.step (fun k => registrarlaw04_KeysStand.j4.eq_2 ..) ?_
    refine ev_neg (by decide) ?_
    by_cases h1 : i = y.length
    · refine ev_pos (by omega) ?_
      rw [begins_of_take ht.symm h1] at b2
      refine ev_one b2 ?_
      exact h5
    · refine ev_neg (by omega) ?_
      exact h5
  refine Ev.step (fun k => registrarlaw04_KeysStand.j3.eq_2 ..) ?_
  by_cases h1 : i = x.length
  · refine ev_pos (by omega) ?_
    rw [begins_of_take ht h1] at b1
    refine ev_one b1 ?_
    exact h4
  · refine ev_neg (by omega) ?_
    exact h4
theorem stand_l {x y : List S45} (hx : x.all right = true) (hy : y.all right = true) (ix : ∀ v ∈ x, in64 v.f1) (iy : ∀ v ∈ y, in64 v.f1) (lx : x.length ≤ 6) (ly : y.length ≤ 6) : ∀ (m i : Nat), i + m = x.length → x.take i = y.take i → i ≤ y.length → Ev (fun k => registrarlaw04_KeysStand.l0 k x y (bodyB x) (bodyB y) i) true
  | m, i, hi, ht, hiy => by
    refine Ev.step (fun k => registrarlaw04_KeysStand.l0.eq_2 ..) ?_
    cases m with
    | zero =>
      refine ev_neg (by omega) ?_
      exact stand_j3 hx hy ix iy lx ly i ht (by omega) hiy (fun h1 _ => by omega)
    | succ m =>
      have hlt : i < x.length := by omega
      refine ev_pos (by omega) ?_
      by_cases h2 : i < y.length
      · refine ev_pos (by omega) ?_
        refine ev_pos (by omega) ?_
        rw [rd_at x i hlt, rd_at y i h2]
        have e2 : wrap64 ((i : Int) + 1) = ((i + 1 : Nat) : Int) := by rw [wrap_in (by omega) (by omega)]; omega
        by_cases he : x[i] = y[i]
        · refine ev_pos (sameV_iff.2 he) ?_
          rw [e2]
          exact stand_l hx hy ix iy lx ly m (i + 1) (by omega) (by rw [List.take_succ_eq_append_getElem hlt, List.take_succ_eq_append_getElem h2, ht, he]) (by omega)
        · refine ev_neg (fun h => he (sameV_iff.1 h)) ?_
          exact stand_j3 hx hy ix iy lx ly i ht (by omega) hiy (fun _ _ => he)
      · refine ev_neg (by omega) ?_
        exact stand_j3 hx hy ix iy lx ly i ht (by omega) hiy (fun _ h => absurd h h2)
theorem stand_j1 (x y : List S45) (a b : List Int) : Ev (fun k => registrarlaw04_KeysStand.j1 k x y a b true) true := by
  refine Ev.step (fun k => registrarlaw04_KeysStand.j1.eq_2 ..) ?_
  refine ev_pos rfl ?_
  exact Ev.bind works_f (Ev.now _)
theorem KeysStand : registrarlaw04_KeysStand.Pure := by
  intro x y hx hy
  have ix : ∀ v ∈ x, in64 v.f1 := fun v hv => in64_wf (hx.2 v hv).2.1
  have iy : ∀ v ∈ y, in64 v.f1 := fun v hv => in64_wf (hy.2 v hv).2.1
  refine Ev.rounds (g := fun k => registrarlaw04_KeysStand.f k x y) ?_
  unfold registrarlaw04_KeysStand.f
  refine Ev.bind (large_f x hx.1) ?_
  have hw : ∀ z, z = true → Ev (fun k => registrarlaw04_KeysStand.j0 k x y z) true := by
    intro z hz
    refine Ev.step (fun k => registrarlaw04_KeysStand.j0.eq_2 ..) ?_
    refine ev_pos hz ?_
    exact Ev.bind works_f (Ev.now _)
  by_cases h : large x = true
  · exact ev_pos h (hw true rfl)
  · refine ev_neg h ?_
    refine Ev.bind (large_f y hy.1) ?_
    by_cases h2 : large y = true
    · exact hw _ h2
    · have hl := (large_not h).1
      have hl2 := (large_not h2).1
      refine Ev.step (fun k => registrarlaw04_KeysStand.j0.eq_2 ..) ?_
      refine ev_neg h2 ?_
      refine Ev.bind (put_f x (by omega)) ?_
      refine Ev.bind (put_f y (by omega)) ?_
      by_cases hp : (put x).2 = 0
      · refine ev_pos hp ?_
        by_cases hq : (put y).2 = 0
        · obtain ⟨l1, r1, e1⟩ := put_ok hp
          obtain ⟨l2, r2, e2⟩ := put_ok hq
          rw [e1, e2]
          refine Ev.step (fun k => registrarlaw04_KeysStand.j1.eq_2 ..) ?_
          refine ev_neg (by simp) ?_
          exact stand_l r1 r2 ix iy l1 l2 x.length 0 (by omega) (by simp) (by omega)
        · rw [show ((put y).2 != 0) = true by simpa using hq]
          exact stand_j1 _ _ _ _
      · refine ev_neg hp ?_
        exact stand_j1 _ _ _ _
end Go.Proofs.Ytlbjipdkihoojaa.Pure
