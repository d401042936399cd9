/- Values come back from their bytes, and bytes that are values are theirs. -/
import Derived.Test.YtlbjipdkihoojaaStKeysBack
import Derived.Test.YtlbjipdkihoojaaKeysGet
namespace Go.Proofs.Ytlbjipdkihoojaa.Pure
set_option linter.unusedVariables false
set_option linter.unusedSimpArgs false
open Go Go.RowKit Go.Proofs.Ytlbjipdkihoojaa.Q Go.Proofs.YtlbjipdkihoojaaW.PrintWords Go.Proofs.Ytlbjipdkihoojaa.Aux Go.Proofs.Ytlbjipdkihoojaa.By Go.Proofs.Ytlbjipdkihoojaa.KeysW Go.Proofs.Ytlbjipdkihoojaa.Open

theorem back_j1 (b : List Int) (hb : isB b) (hl : b.length ≤ 1000) : Ev (fun k => registrarlaw04_KeysBack.j1 k b) true := by
  refine Ev.step (fun k => registrarlaw04_KeysBack.j1.eq_2 ..) ?_
  obtain ⟨r, h1, h2, h3⟩ := get_any b.length b [] (Nat.le_refl _) (by omega) hb (by simp)
  have hf : Ev (fun k => keys_Get.f k b) r := h1
  refine Ev.bind hf ?_
  by_cases h0 : r.2 = 0
  · refine ev_pos h0 ?_
    obtain ⟨l, g1, g2, g3, g4⟩ := h2 h0
    rw [List.nil_append] at g1
    rw [g1] at g4 ⊢
    have hp : put l = (b, 0) := by
      unfold put
      rw [if_neg (by omega), if_pos g2, g3]
    have := put_f l (by omega)
    rw [hp] at this
    refine Ev.bind this ?_
    refine ev_pos rfl ?_
    refine Ev.bind (same_f b b (by omega)) ?_
    refine ev_pos (by simp) ?_
    exact Ev.bind works_f (Ev.now _)
  · refine ev_neg h0 ?_
    rw [h3 h0]
    refine ev_pos rfl ?_
    exact Ev.bind works_f (Ev.now _)
theorem back_j0 (x : List S45) (b : List Int) (hx : x.length ≤ 10) (h64 : ∀ v ∈ x, in64 v.f1) (hb : isB b) (hl : b.length ≤ 1000) : Ev (fun k => registrarlaw04_KeysBack.j0 k x b false) true := by
  refine Ev.step (fun k => registrarlaw04_KeysBack.j0.eq_2 ..) ?_
  refine ev_neg (by decide) ?_
  refine Ev.bind (put_f x (by omega)) ?_
  by_cases h0 : (put x).2 = 0
  · refine ev_pos h0 ?_
    obtain ⟨h1, h2, h3⟩ := put_ok h0
    rw [h3]
    have hg := get_put x [] (by simpa using h1) h2 h64
    rw [List.nil_append] at hg
    have hf : Ev (fun k => keys_Get.f k (bodyB x)) (x, 0) := hg
    refine Ev.bind hf ?_
    refine ev_pos rfl ?_
    refine Ev.bind (rsame_f x x (by omega)) ?_
    refine ev_pos (sameL_iff.2 rfl) ?_
    exact back_j1 b hb hl
  · refine ev_neg h0 ?_
    exact back_j1 b hb hl
theorem KeysBack : registrarlaw04_KeysBack.Pure := by
  intro x b hx hbw
  have h64 : ∀ v ∈ x, in64 v.f1 := fun v hv => in64_wf (hx.2 v hv).2.1
  have hb : isB b := isB_wf hbw.2
  refine Ev.rounds (g := fun k => registrarlaw04_KeysBack.f k x b) ?_
  unfold registrarlaw04_KeysBack.f
  refine Ev.bind (large_f x hx.1) ?_
  have hw : ∀ y, y = true → Ev (fun k => registrarlaw04_KeysBack.j0 k x b y) true := by
    intro y hy
    refine Ev.step (fun k => registrarlaw04_KeysBack.j0.eq_2 ..) ?_
    refine ev_pos hy ?_
    exact Ev.bind works_f (Ev.now _)
  by_cases h : large x = true
  · refine ev_pos h ?_
    exact hw true rfl
  · refine ev_neg h ?_
    by_cases hl : b.length ≤ 1000
    · rw [show decide ((b.length : Int) > 1000) = false by simp; omega]
      exact back_j0 x b (large_not h).1 h64 hb hl
    · exact hw _ (by simp; omega)
end Go.Proofs.Ytlbjipdkihoojaa.Pure
