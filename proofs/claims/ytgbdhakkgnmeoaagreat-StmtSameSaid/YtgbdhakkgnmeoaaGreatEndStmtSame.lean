/- The law StmtSame holds for every input, without a condition: the row, out of the law's walk. -/
import Derived.Test.YtgbdhakkgnmeoaaGreatRows
import Derived.Test.YtgbdhakkgnmeoaaGreatLStmtSame
import Derived.WalkKit
import Derived.ProofKit
import Derived.OpenShut
import Derived.ShutString
import Derived.ChangeOld
import Derived.Below
import Derived.SizedLaws
namespace Go.Proofs.YtgbdhakkgnmeoaaGreat.D.stmtSame
set_option linter.unusedVariables false
set_option linter.unusedSimpArgs false
open Go Go.ChangeShapes Go.WideShapes Go.ChangeAt Go.RowKit Go.Proofs.YtgbdhakkgnmeoaaGreat.D Go.Proofs.YtgbdhakkgnmeoaaGreat.D.Pm
open Go.Proofs.YtgbdhakkgnmeoaaGreat
theorem own : ownKnob Tryz.prog.godebug = none := by kernel_rfl
theorem laidOut : laidOutB Tryz.prog = true := by kernel_rfl
set_option maxRecDepth 100000 in
theorem lifted (pure : ∀ (x0 : St) (x1 : St), wfSt x0 → wfSt x1 → Is Tryz.prog 3 [.g (eSt x0), .g (eSt x1)] (vB true)) (os : Os) (started : os.Started) (H : Type) (enc : TypeId × Value → H) :
    ReturnsInHanded {} Tryz.checked os 3 .any (Rows.stmtSameSpec.pre6 enc Tryz.prog Tryz.f3 Rows.stmtSameRow.domain false) (Rows.stmtSameSpec.post enc Tryz.prog Tryz.f3 false true false false) := by
  refine returnsInHanded_of_change_sized (C := Tryz.checked) own started (by kernel_rfl) Tryz.func3
    (ChangeSpec.witness6 (enc := enc) (C := Tryz.checked) false ⟨#[], #[.agg #[.int .i64 0, .string ByteArray.empty, .string ByteArray.empty, .string ByteArray.empty, .slice none 0 0, .slice none 0 0, .slice none 0 0, .slice none 0 0, .int .i64 0, .int .i64 0, .int .i64 0, .int .i64 0, .string ByteArray.empty, .string ByteArray.empty, .slice none 0 0, .slice none 0 0, .slice none 0 0, .int .i64 0, .int .i64 0, .bool false, .slice none 0 0], .agg #[.int .i64 0, .string ByteArray.empty, .string ByteArray.empty, .string ByteArray.empty, .slice none 0 0, .slice none 0 0, .slice none 0 0, .slice none 0 0, .int .i64 0, .int .i64 0, .int .i64 0, .int .i64 0, .string ByteArray.empty, .string ByteArray.empty, .slice none 0 0, .slice none 0 0, .slice none 0 0, .int .i64 0, .int .i64 0, .bool false, .slice none 0 0]], []⟩ 8 (by kernel_rfl) (by kernel_rfl) (by kernel_rfl) (by kernel_rfl)) ?_
  intro W base args ds gs before hval0 hW hcnd hsz0 _
  have hval : ∀ (j : Nat) t v, Tryz.f3.params[j]? = some t → args[j]? = some v → Value.okWide Tryz.prog W .any base t v := hval0
  have hW' := hW
  obtain ⟨p, q, hA0, hV, rfl, hfz, hnd⟩ := hW
  have hA : DataW.TrodAll enc Tryz.prog W 0 (fun _ => true) true Tryz.f3.params.toList args.toList ds p := hA0
  rw [Tryz.params3] at hA hval
  obtain ⟨v0, vs0, d0, ds0, p0, q0, hargs, rfl, rfl, h0, r0⟩ := trodAll_cons hA
  obtain ⟨v1, vs1, d1, ds1, p1, q1, rfl, rfl, rfl, h1, r1⟩ := trodAll_cons r0
  obtain ⟨rfl, rfl, rfl⟩ := trodAll_nil r1
  obtain rfl : args = #[v0, v1] := by cases args; simp_all
  obtain ⟨rfl, rfl⟩ := trodVars_none hV
  have k0 := h0
  have lt0 : ∀ x ∈ p0, x.block < W.heap.size := by obtain ⟨m, hm⟩ := k0; exact DataW.trod_lt m _ _ _ hm
  obtain ⟨cs0, rfl, _, _⟩ : ∃ cs, v0 = .agg cs ∧ cs.size = Tryz.prog.cellsOf 35 ∧ Row.okWide Tryz.prog W .any base 35 cs := by
    have z := (hval 0 35 v0 rfl rfl)
    unfold Value.okWide at z
    rw [Tryz.underlying35] at z
    exact z
  obtain ⟨x0, ok0, rv0⟩ := Rd.argG rdSt h0
  have k1 := h1
  have lt1 : ∀ x ∈ p1, x.block < W.heap.size := by obtain ⟨m, hm⟩ := k1; exact DataW.trod_lt m _ _ _ hm
  obtain ⟨cs1, rfl, _, _⟩ : ∃ cs, v1 = .agg cs ∧ cs.size = Tryz.prog.cellsOf 35 ∧ Row.okWide Tryz.prog W .any base 35 cs := by
    have z := (hval 1 35 v1 rfl rfl)
    unfold Value.okWide at z
    rw [Tryz.underlying35] at z
    exact z
  obtain ⟨x1, ok1, rv1⟩ := Rd.argG rdSt h1
  clear hA0 hval0 hsz0
  refine (((pure x0 x1 ok0 ok1) (fun _ => none)).out (top W) W _ (top_inv W) ⟨rfl, fun j r v q1 q2 => ?_⟩).mono fun e W' ⟨G', r, st', v, ⟨hr, _⟩, he, hx, _, hv⟩ => ?_
  · match j, q1, q2 with
    | 0, q1, q2 => cases q1; cases q2; exact rv0
    | 1, q1, q2 => cases q1; cases q2; exact rv1
    | j + 2, q1, q2 => simp at q1
  have bel : Below W.heap.size W W' := hx.below
  subst he
  subst hr
  obtain rfl : v = .bool true := by have hc := hv.cel; cases hc; rfl
  exact ⟨_, rfl, _, _, _, [], _, [], hW', trodAll_mk1 (shut_bool Tryz.underlying4 _), (trodAll_cons_mk (Below.trod laidOut (by kernel_rfl) (of_decide_eq_true (by kernel_rfl)) k0 bel lt0) (trodAll_cons_mk (Below.trod laidOut (by kernel_rfl) (of_decide_eq_true (by kernel_rfl)) k1 bel lt1) trodAll_mk0)), rfl, bel.frame _, fun h => by cases h⟩
theorem over (pure : ∀ (x0 : St) (x1 : St), wfSt x0 → wfSt x1 → Is Tryz.prog 3 [.g (eSt x0), .g (eSt x1)] (vB true)) : Rows.stmtSameRow.holds Tryz.pinned (OpenSpec.ofChange Rows.stmtSameSpec) :=
  OpenClaim.holds_of_wide 3 Tryz.f3 rfl rfl rfl rfl rfl rfl rfl ⟨rfl, rfl, rfl, rfl, rfl⟩ rfl rfl rfl rfl rfl (by kernel_rfl) Tryz.func3 (by kernel_rfl)
    (of_decide_eq_true (by kernel_rfl)) (by unfold Func.isWrapper; first | (rw [if_pos (by decide +kernel)]; kernel_rfl) | (rw [if_neg (by decide +kernel)]; exact ⟨rfl, rfl⟩))
    (fun os started H enc _ => lifted pure os started H enc)
end Go.Proofs.YtgbdhakkgnmeoaaGreat.D.stmtSame
namespace Go.Proofs.YtgbdhakkgnmeoaaGreat
/-- The law StmtSame, for every input. -/
theorem stmtSame_holds : Rows.StmtSameSaid := Go.Proofs.YtgbdhakkgnmeoaaGreat.D.stmtSame.over fun x0 x1 h0 h1 => Go.Proofs.YtgbdhakkgnmeoaaGreat.D.stmtSame_law x0 x1 h0 h1
#print axioms stmtSame_holds
end Go.Proofs.YtgbdhakkgnmeoaaGreat
