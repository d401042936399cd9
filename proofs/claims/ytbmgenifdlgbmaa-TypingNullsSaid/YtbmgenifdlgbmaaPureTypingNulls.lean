/- What has a type, or is a number too few, is not of wrong types, if nothing is known of a parameter; and the type is as it was, or Null. -/
import Derived.Test.YtbmgenifdlgbmaaStTypingNulls
import Derived.Test.YtbmgenifdlgbmaaTypW
namespace Go.Proofs.Ytbmgenifdlgbmaa.Pure
set_option linter.unusedVariables false
set_option linter.unusedSimpArgs false
open Go Go.RowKit Go.Proofs.Ytbmgenifdlgbmaa.Q Go.Proofs.YtbmgenifdlgbmaaW.PrintWords Go.Proofs.Ytbmgenifdlgbmaa.Aux Go.Proofs.Ytbmgenifdlgbmaa.By Go.Proofs.Ytbmgenifdlgbmaa.TypE Go.Proofs.Ytbmgenifdlgbmaa.Open

theorem u8_wf {n : Int} (h : (Lit.int .u8 n).wf = true) : 0 ≤ n ∧ n < 256 := by
  simp [Lit.wf, IntKind.min, IntKind.max, IntKind.bits, IntKind.signed] at h
  omega
theorem nulls_yes (x : S26) (ps cols : List Int) (a : Int) : Ev (fun k => registrarlaw15_TypingNulls.j0 k ps a cols true x.f0 x.f1 x.f2.f0 x.f2.f1 x.f2.f2 x.f3 x.f4) true := by
  refine Ev.step (fun k => registrarlaw15_TypingNulls.j0.eq_2 ..) ?_
  refine ev_pos rfl ?_
  exact Ev.bind works_f (Ev.now _)
theorem type_any (x : S26) (c : Int) (hc : Ev (fun k => expr_Check.f k x.f0 x.f1 x.f2.f0 x.f2.f1 x.f2.f2 x.f3 x.f4 true) c) (hok : c = 0 → Fine x ∧ expr_low.b 8 x.f4 = true) (cols ps : List Int) (h1 : cols.length ≤ 900) (h2 : ps.length ≤ 900) : Ev (fun k => typing_Type.f k x.f0 x.f1 x.f2.f0 x.f2.f1 x.f2.f2 x.f3 x.f4 cols ps) (if c = 0 then typP cols ps 8 x else (0, c)) := by
  unfold typing_Type.f
  refine Ev.bind hc ?_
  by_cases h0 : c = 0
  · refine ev_pos h0 ?_
    obtain ⟨g1, g2⟩ := hok h0
    rw [if_pos h0]
    exact Ev.bind (typ_f cols ps h1 h2 8 x g1 g2) (Ev.now _)
  · refine ev_neg h0 ?_
    rw [if_neg h0]
    exact Ev.now _
theorem TypingNulls : registrarlaw15_TypingNulls.Pure := by
  intro x ps a hx hps ha
  have ha2 := u8_wf ha
  refine Ev.rounds (g := fun k => registrarlaw15_TypingNulls.f k x.f0 x.f1 x.f2.f0 x.f2.f1 x.f2.f2 x.f3 x.f4 ps a) ?_
  unfold registrarlaw15_TypingNulls.f
  refine ev_one rfl ?_
  have hfew : registrarlaw15_few.f [1, 1, 2, 3] ps = some (decide (ps.length ≤ 12)) := by
    unfold registrarlaw15_few.f
    rw [if_pos (by decide)]
    congr 1
    rw [Bool.eq_iff_iff]
    simp
    omega
  refine ev_one hfew ?_
  by_cases h12 : ps.length ≤ 12
  · refine ev_pos (by simpa using h12) ?_
    obtain ⟨b, g1, g2⟩ := few_any x
    refine Ev.bind g1 ?_
    by_cases hb : b = true
    · refine ev_pos hb ?_
      by_cases h0 : ps.length = 0
      · rw [show ((ps.length : Int) == 0) = true by simp [h0]]
        exact nulls_yes x ps _ a
      · rw [show ((ps.length : Int) == 0) = false by simpa using h0]
        obtain ⟨c, hc, hok, h37⟩ := check_any x true (g2 hb)
        refine Ev.step (fun k => registrarlaw15_TypingNulls.j0.eq_2 ..) ?_
        refine ev_neg (by decide) ?_
        have t1 := type_any x c hc hok [1, 1, 2, 3] ps (by decide) (by omega)
        refine Ev.bind t1 ?_
        refine ev_one rfl ?_
        refine ev_pos (by simp; omega) ?_
        refine ev_one rfl ?_
        simp only [List.nil_append]
        have hw : wrap64 a = a := wrap_in (by omega) (by omega)
        obtain ⟨A, rfl⟩ := Int.eq_ofNat_of_zero_le ha2.1
        have hm : Int.tmod (A : Int) (ps.length : Int) = ((A % ps.length : Nat) : Int) := by
          rw [Int.tmod_eq_emod_of_nonneg (by omega)]
          simp
        have hml : A % ps.length < ps.length := Nat.mod_lt _ (by omega)
        rw [hw, hm]
        refine ev_neg (by omega) ?_
        refine ev_pos (by omega) ?_
        refine ev_pos (by omega) ?_
        rw [Int.toNat_natCast]
        have t2 := type_any x c hc hok [1, 1, 2, 3] (ps.set (A % ps.length) 0) (by decide) (by rw [List.length_set]; omega)
        refine Ev.bind t2 ?_
        have hR : R (if c = 0 then typP [1, 1, 2, 3] ps 8 x else (0, c)) (if c = 0 then typP [1, 1, 2, 3] (ps.set (A % ps.length) 0) 8 x else (0, c)) := by
          by_cases h : c = 0
          · rw [if_pos h, if_pos h]
            exact typ_R (fun b => one_R ps _ b) 8 x
          · rw [if_neg h, if_neg h]
            exact R.refl _
        obtain ⟨p, hp⟩ : ∃ p, (if c = 0 then typP [1, 1, 2, 3] ps 8 x else (0, c)) = p := ⟨_, rfl⟩
        obtain ⟨q, hq⟩ : ∃ q, (if c = 0 then typP [1, 1, 2, 3] (ps.set (A % ps.length) 0) 8 x else (0, c)) = q := ⟨_, rfl⟩
        rw [hp, hq] at hR
        rw [hp, hq]
        by_cases p0 : p.2 = 0
        · obtain ⟨q0, q1⟩ := hR.1 p0
          refine ev_pos p0 ?_
          refine ev_pos q0 ?_
          by_cases e1 : q.1 = p.1
          · refine ev_pos e1 ?_
            exact Ev.bind works_f (Ev.now _)
          · refine ev_neg e1 ?_
            refine ev_pos (by rcases q1 with h | h; exact absurd h e1; exact h) ?_
            exact Ev.bind works_f (Ev.now _)
        · refine ev_neg p0 ?_
          by_cases p37 : p.2 = 37
          · refine ev_pos p37 ?_
            refine ev_pos (hR.2 p37) ?_
            exact Ev.bind works_f (Ev.now _)
          · refine ev_neg p37 ?_
            exact Ev.bind works_f (Ev.now _)
    · refine ev_neg hb ?_
      exact nulls_yes x ps _ a
  · refine ev_neg (by simpa using h12) ?_
    exact nulls_yes x ps _ a
end Go.Proofs.Ytbmgenifdlgbmaa.Pure
