-- Written by a program of this session (wip/prx.py) out of the translation; Lean checks it.
import Derived.Test.YtlbjipdkihoojaaRows
import Derived.Test.YtlbjipdkihoojaaStRowsCut
import Derived.WalkKit
import Derived.ProofKit
import Derived.OpenShut
import Derived.ShutString
import Derived.ChangeOld
import Derived.Below
import Derived.SizedLaws
namespace Go.Proofs.Ytlbjipdkihoojaa.rowsCut
open Go.ChangeShapes Go.WideShapes Go.ChangeAt Go.RowKit Go.Proofs.Ytlbjipdkihoojaa.Q Go.Proofs.YtlbjipdkihoojaaW.PrintWords Go.Proofs.Ytlbjipdkihoojaa.Open
open Go.ChangeMaps (open_string shut_string)
set_option linter.unusedVariables false
theorem own : ownKnob Try.prog.godebug = none := by kernel_rfl
theorem laidOut : laidOutB Try.prog = true := by kernel_rfl
set_option maxRecDepth 100000 in
theorem lifted (pure : registrarlaw05_RowsCut.Pure) (os : Os) (started : os.Started) (H : Type) (enc : TypeId × Value → H) :
    ReturnsInHanded {} Try.checked os 8 .any (Rows.rowsCutSpec.pre6 enc Try.prog Try.f8 Rows.rowsCutRow.domain false) (Rows.rowsCutSpec.post enc Try.prog Try.f8 false true false false) := by
  refine returnsInHanded_of_change_sized (C := Try.checked) own started (by kernel_rfl) Try.func8
    (ChangeSpec.witness6 (enc := enc) (C := Try.checked) false ⟨#[], #[.agg #[.int .i64 0, .slice none 0 0], .int .u16 0, .int .u8 0], []⟩ 8 (by kernel_rfl) (by kernel_rfl) (by kernel_rfl) (by kernel_rfl)) ?_
  intro W base args ds gs before hval0 hW hcnd hsz0 _
  have hval : ∀ (j : Nat) t v, Try.f8.params[j]? = some t → args[j]? = some v → Value.okWide Try.prog W .any base t v := hval0
  have hW' := hW
  obtain ⟨p, q, hA0, hV, rfl, hfz, hnd⟩ := hW
  have hA : DataW.TrodAll enc Try.prog W 0 (fun _ => true) true Try.f8.params.toList args.toList ds p := hA0
  rw [Try.params8] at hA hval
  obtain ⟨v0, vs0, d0, ds0, p0, q0, hargs, rfl, rfl, h0, r0⟩ := trodAll_cons hA
  obtain ⟨v1, vs1, d1, ds1, p1, q1, rfl, rfl, rfl, h1, r1⟩ := trodAll_cons r0
  obtain ⟨v2, vs2, d2, ds2, p2, q2, rfl, rfl, rfl, h2, r2⟩ := trodAll_cons r1
  obtain ⟨rfl, rfl, rfl⟩ := trodAll_nil r2
  obtain rfl : args = #[v0, v1, v2] := by cases args; simp_all
  obtain ⟨rfl, rfl⟩ := trodVars_none hV
  have k0 := h0
  have lt0 : ∀ x ∈ p0, x.block < W.heap.size := by obtain ⟨m, hm⟩ := k0; exact DataW.trod_lt m _ _ _ hm
  obtain ⟨x0, hx0, ok_0⟩ : ∃ a, k24.K W a v0.cells.toList ∧ ok24 a := by
    obtain ⟨m, hf⟩ := h0
    exact (open24 m).2 _ enc W 0 _ _ m _ _ (Nat.le_refl _) hf
  obtain ⟨cs0, rfl, _, _⟩ : ∃ cs, v0 = .agg cs ∧ cs.size = Try.prog.cellsOf 24 ∧ Row.okWide Try.prog W .any base 24 cs := by
    have z := (hval 0 24 v0 rfl rfl)
    unfold Value.okWide at z
    rw [Try.underlying24] at z
    exact z
  obtain ⟨cl0⟩ := cs0
  obtain ⟨A0_1, c0_1, rfl, l0_1, g0_1⟩ := k24_open (show k24.K W x0 cl0 from hx0)
  have k1 := h1
  have lt1 : ∀ x ∈ p1, x.block < W.heap.size := by obtain ⟨m, hm⟩ := k1; exact DataW.trod_lt m _ _ _ hm
  obtain ⟨x1, hx1, ok_1⟩ : ∃ a, (Kd.int .u16).K W a v1.cells.toList ∧ (fun n => (Lit.int .u16 n).wf = true) a := by
    obtain ⟨m, hf⟩ := h1
    exact (OpensF.int Try.underlying48 (by kernel_rfl) m).2 _ enc W 0 _ _ m _ _ (Nat.le_refl _) hf
  obtain ⟨y1, rfl⟩ := okWide_int Try.underlying48 (hval 1 48 v1 rfl rfl)
  have e1 : (Value.int .u16 y1).cells.toList = [(Value.int .u16 x1)] := hx1
  obtain rfl : y1 = x1 := by simpa [Value.cells] using e1
  clear e1 hx1
  have k2 := h2
  have lt2 : ∀ x ∈ p2, x.block < W.heap.size := by obtain ⟨m, hm⟩ := k2; exact DataW.trod_lt m _ _ _ hm
  obtain ⟨x2, hx2, ok_2⟩ : ∃ a, (Kd.int .u8).K W a v2.cells.toList ∧ (fun n => (Lit.int .u8 n).wf = true) a := by
    obtain ⟨m, hf⟩ := h2
    exact (OpensF.int Try.underlying5 (by kernel_rfl) m).2 _ enc W 0 _ _ m _ _ (Nat.le_refl _) hf
  obtain ⟨y2, rfl⟩ := okWide_int Try.underlying5 (hval 2 5 v2 rfl rfl)
  have e2 : (Value.int .u8 y2).cells.toList = [(Value.int .u8 x2)] := hx2
  obtain rfl : y2 = x2 := by simpa [Value.cells] using e2
  clear e2 hx2
  clear hA0 hval0 hsz0
  obtain ⟨k, hp⟩ := pure x0 y1 y2 ok_0 ok_1 ok_2
  refine (registrarlaw05_RowsCut.calls k x0.f0 _ _ x0.f1 y1 y2 true W g0_1 l0_1 hp).mono fun e W' ⟨he, bel0⟩ => ?_
  have bel : Below W.heap.size W W' := bel0
  subst he
  exact ⟨_, rfl, _, _, _, [], _, [], hW', trodAll_mk1 (shut_bool Try.underlying4 _), (trodAll_cons_mk (Below.trod laidOut (by kernel_rfl) (of_decide_eq_true (by kernel_rfl)) k0 bel lt0) (trodAll_cons_mk (Below.trod laidOut (by kernel_rfl) (of_decide_eq_true (by kernel_rfl)) k1 bel lt1) (trodAll_cons_mk (Below.trod laidOut (by kernel_rfl) (of_decide_eq_true (by kernel_rfl)) k2 bel lt2) trodAll_mk0))), rfl, bel.frame _, fun h => by cases h⟩
theorem over (pure : registrarlaw05_RowsCut.Pure) : Rows.rowsCutRow.holds Try.pinned (OpenSpec.ofChange Rows.rowsCutSpec) :=
  OpenClaim.holds_of_wide 8 Try.f8 rfl rfl rfl rfl rfl rfl rfl ⟨rfl, rfl, rfl, rfl, rfl⟩ rfl rfl rfl rfl rfl (by kernel_rfl) Try.func8 (by kernel_rfl)
    (of_decide_eq_true (by kernel_rfl)) (by unfold Func.isWrapper; first | (rw [if_pos (by decide +kernel)]; kernel_rfl) | (rw [if_neg (by decide +kernel)]; exact ⟨rfl, rfl⟩))
    (fun os started H enc _ => lifted pure os started H enc)
end Go.Proofs.Ytlbjipdkihoojaa.rowsCut
