/- Of a row's bytes no beginning is a row, but ends too early; with a byte more behind them they are none. -/
import Derived.Test.YtlbjipdkihoojaaStRowsCut
import Derived.Test.YtlbjipdkihoojaaRowsEnds
namespace Go.Proofs.Ytlbjipdkihoojaa.Pure
set_option linter.unusedVariables false
set_option linter.unusedSimpArgs false
open Go Go.RowKit Go.Proofs.Ytlbjipdkihoojaa.Q Go.Proofs.YtlbjipdkihoojaaW.PrintWords Go.Proofs.Ytlbjipdkihoojaa.Aux Go.Proofs.Ytlbjipdkihoojaa.By Go.Proofs.Ytlbjipdkihoojaa.RowsW Go.Proofs.Ytlbjipdkihoojaa.Open

theorem u16_wf {n : Int} (h : (Lit.int .u16 n).wf = true) : 0 ≤ n ∧ n < 65536 := by
  simp [Lit.wf, IntKind.min, IntKind.max, IntKind.bits, IntKind.signed] at h
  omega
theorem RowsCut : registrarlaw05_RowsCut.Pure := by
  intro x at_ c hx hat hcw
  have h64 : ∀ v ∈ x.f1, in64 v.f1 := fun v hv => in64_wf (hx.2.2 v hv).2.1
  have hn : in64 x.f0 := in64_wf hx.1
  have ha := u16_wf hat
  refine Ev.rounds (g := fun k => registrarlaw05_RowsCut.f k x.f0 x.f1 at_ c) ?_
  unfold registrarlaw05_RowsCut.f
  refine Ev.bind (large_f x.f0 x.f1 hx.2.1) ?_
  by_cases h : large x.f1 = true
  · refine ev_pos h ?_
    exact Ev.bind works_f (Ev.now _)
  · refine ev_neg h ?_
    have hl := (large_not h).1
    refine Ev.bind (put_f x.f0 x.f1 hn (by omega) h64) ?_
    have hpl := put_len x.f0 x.f1 hn h64
    by_cases hc : check x.f0 x.f1 = 0
    · have hp : (put x.f0 x.f1).2 = 0 := by unfold put; rw [if_pos hc]
      have hpos : 0 < (put x.f0 x.f1).1.length := by
        unfold put
        rw [if_pos hc]
        simp
        omega
      have hback := getf_back x.f0 x.f1 hc hn h64 [c]
      rw [if_neg (by simp)] at hback
      have hcut := getf_cut x.f0 x.f1 hc hn h64
      refine ev_pos hp ?_
      obtain ⟨b, hb⟩ : ∃ b, (put x.f0 x.f1).1 = b := ⟨_, rfl⟩
      rw [hb] at hpl hpos hback hcut ⊢
      refine Ev.step (fun k => registrarlaw05_RowsCut.j0.eq_2 ..) ?_
      refine ev_neg (by simp; intro h0; rw [h0] at hpos; simp at hpos) ?_
      refine ev_neg (by omega) ?_
      have hw : wrap64 at_ = at_ := wrap_in (by omega) (by omega)
      obtain ⟨A, rfl⟩ := Int.eq_ofNat_of_zero_le ha.1
      have hm : Int.tmod (A : Int) (b.length : Int) = ((A % b.length : Nat) : Int) := by
        rw [Int.tmod_eq_emod_of_nonneg (by omega)]
        simp
      have hml : A % b.length < b.length := Nat.mod_lt _ hpos
      rw [hw, hm]
      refine ev_pos (by omega) ?_
      refine ev_pos (by omega) ?_
      obtain ⟨r, g1, g2⟩ := hcut (b.take (A % b.length)) (b.drop (A % b.length)) (List.take_append_drop _ _).symm (by
        intro h0
        have := congrArg List.length h0
        rw [List.length_drop] at this
        simp at this
        omega)
      rw [Int.toNat_natCast]
      refine Ev.bind g1 ?_
      refine ev_one rfl ?_
      refine ev_pos (by simp; omega) ?_
      refine ev_one rfl ?_
      rw [List.nil_append]
      refine ev_pos (by omega) ?_
      refine Ev.bind hback ?_
      refine ev_pos g2 ?_
      refine ev_pos rfl ?_
      exact Ev.bind works_f (Ev.now _)
    · have hp : ¬ (put x.f0 x.f1).2 = 0 := by unfold put; rw [if_neg hc]; exact hc
      have h1 : (put x.f0 x.f1).1 = [] := by unfold put; rw [if_neg hc]
      refine ev_neg hp ?_
      refine Ev.step (fun k => registrarlaw05_RowsCut.j0.eq_2 ..) ?_
      refine ev_pos rfl ?_
      refine ev_neg hp ?_
      rw [h1]
      refine ev_pos rfl ?_
      exact Ev.bind works_f (Ev.now _)
end Go.Proofs.Ytlbjipdkihoojaa.Pure
