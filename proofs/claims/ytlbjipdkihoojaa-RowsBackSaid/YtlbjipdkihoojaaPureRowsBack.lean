/- A row comes back from its bytes, and bytes that are a row are its own. -/
import Derived.Test.YtlbjipdkihoojaaStRowsBack
import Derived.Test.YtlbjipdkihoojaaRowsGet3
namespace Go.Proofs.Ytlbjipdkihoojaa.Pure
set_option linter.unusedVariables false
set_option linter.unusedSimpArgs false
open Go Go.RowKit Go.Proofs.Ytlbjipdkihoojaa.Q Go.Proofs.YtlbjipdkihoojaaW.PrintWords Go.Proofs.Ytlbjipdkihoojaa.Aux Go.Proofs.Ytlbjipdkihoojaa.By Go.Proofs.Ytlbjipdkihoojaa.RowsW Go.Proofs.Ytlbjipdkihoojaa.Open

theorem back_j1 (b : List Int) (hb : isB b) (hl : b.length ≤ 1000) : Ev (fun k => registrarlaw05_RowsBack.j1 k b) true := by
  refine Ev.step (fun k => registrarlaw05_RowsBack.j1.eq_2 ..) ?_
  obtain ⟨r, h1, h2, h3⟩ := getf_any b hb
  refine Ev.bind h1 ?_
  by_cases h0 : r.2.2 = 0
  · obtain ⟨g1, g2, g3, g4⟩ := h2 h0
    refine ev_pos h0 ?_
    have := put_f r.1 r.2.1 g2 (by omega) g3
    rw [g1] at this
    refine Ev.bind this ?_
    refine ev_pos rfl ?_
    refine Ev.bind (same_f b b (by omega)) ?_
    refine ev_pos (by simp) ?_
    exact Ev.bind works_f (Ev.now _)
  · obtain ⟨g1, g2⟩ := h3 h0
    refine ev_neg h0 ?_
    refine ev_pos g1 ?_
    rw [g2]
    refine ev_pos rfl ?_
    exact Ev.bind works_f (Ev.now _)
theorem back_j0 (n : Int) (l : List S45) (hn : in64 n) (hl : l.length ≤ 10) (h64 : ∀ v ∈ l, in64 v.f1) (b : List Int) (hb : isB b) (hbl : b.length ≤ 1000) : Ev (fun k => registrarlaw05_RowsBack.j0 k b false n l) true := by
  refine Ev.step (fun k => registrarlaw05_RowsBack.j0.eq_2 ..) ?_
  refine ev_neg (by decide) ?_
  refine Ev.bind (put_f n l hn (by omega) h64) ?_
  by_cases hc : check n l = 0
  · have hp : (put n l).2 = 0 := by unfold put; rw [if_pos hc]
    refine ev_pos hp ?_
    have := getf_back n l hc hn h64 []
    rw [List.append_nil, if_pos rfl] at this
    refine Ev.bind this ?_
    refine ev_pos rfl ?_
    have hs := same_r n l n l (by omega)
    have e : sameR n l n l = true := by
      unfold sameR
      rw [sameL_iff.2 rfl]
      simp
    rw [e] at hs
    refine Ev.bind hs ?_
    refine ev_pos rfl ?_
    exact back_j1 b hb hbl
  · have hp : ¬ (put n l).2 = 0 := by unfold put; rw [if_neg hc]; exact hc
    refine ev_neg hp ?_
    exact back_j1 b hb hbl
theorem RowsBack : registrarlaw05_RowsBack.Pure := by
  intro x b hx hbw
  have h64 : ∀ v ∈ x.f1, in64 v.f1 := fun v hv => in64_wf (hx.2.2 v hv).2.1
  have hn : in64 x.f0 := in64_wf hx.1
  have hb : isB b := isB_wf hbw.2
  refine Ev.rounds (g := fun k => registrarlaw05_RowsBack.f k x.f0 x.f1 b) ?_
  unfold registrarlaw05_RowsBack.f
  refine Ev.bind (large_f x.f0 x.f1 hx.2.1) ?_
  have hw : ∀ y, y = true → Ev (fun k => registrarlaw05_RowsBack.j0 k b y x.f0 x.f1) true := by
    intro y hy
    refine Ev.step (fun k => registrarlaw05_RowsBack.j0.eq_2 ..) ?_
    refine ev_pos hy ?_
    exact Ev.bind works_f (Ev.now _)
  by_cases h : large x.f1 = true
  · exact ev_pos h (hw true rfl)
  · refine ev_neg h ?_
    by_cases hl : b.length ≤ 1000
    · rw [show decide ((b.length : Int) > 1000) = false by simp; omega]
      exact back_j0 x.f0 x.f1 hn (large_not h).1 h64 b hb hl
    · exact hw _ (by simp; omega)
end Go.Proofs.Ytlbjipdkihoojaa.Pure
