/- The law EvalLoose holds for every input, without a condition: the row, out of the law's walk. -/
import Derived.Test.YtbmgenifdlgbmaaRows
import Derived.Test.YtbmgenifdlgbmaaLEvalLoose
import Derived.WalkKit
import Derived.ProofKit
import Derived.OpenShut
import Derived.ShutString
import Derived.ChangeOld
import Derived.Below
import Derived.SizedLaws
namespace Go.Proofs.Ytbmgenifdlgbmaa.D.evalLoose
set_option linter.unusedVariables false
set_option linter.unusedSimpArgs false
open Go Go.ChangeShapes Go.WideShapes Go.ChangeAt Go.RowKit Go.Proofs.Ytbmgenifdlgbmaa.D Go.Proofs.Ytbmgenifdlgbmaa.D.Pm
open Go.Proofs.Ytbmgenifdlgbmaa
theorem own : ownKnob Try.prog.godebug = none := by kernel_rfl
theorem laidOut : laidOutB Try.prog = true := by kernel_rfl
set_option maxRecDepth 100000 in
theorem lifted (pure : ∀ (x0 : Ex) (x1 : List Val) (x2 : List Val), wfE x0 → wfVs x1 → wfVs x2 → Is Try.prog 12 [.g (eE x0), .c (.sl 3 (x1.map eV)), .c (.sl 3 (x2.map eV))] (vB true)) (os : Os) (started : os.Started) (H : Type) (enc : TypeId × Value → H) :
    ReturnsInHanded {} Try.checked os 12 .any (Rows.evalLooseSpec.pre6 enc Try.prog Try.f12 Rows.evalLooseRow.domain false) (Rows.evalLooseSpec.post enc Try.prog Try.f12 false true false false) := by
  refine returnsInHanded_of_change_sized (C := Try.checked) own started (by kernel_rfl) Try.func12
    (ChangeSpec.witness6 (enc := enc) (C := Try.checked) false ⟨#[], #[.agg #[.int .i64 0, .int .i64 0, .int .i64 0, .int .i64 0, .string ByteArray.empty, .string ByteArray.empty, .slice none 0 0], .slice none 0 0, .slice none 0 0], []⟩ 8 (by kernel_rfl) (by kernel_rfl) (by kernel_rfl) (by kernel_rfl)) ?_
  intro W base args ds gs before hval0 hW hcnd hsz0 _
  have hval : ∀ (j : Nat) t v, Try.f12.params[j]? = some t → args[j]? = some v → Value.okWide Try.prog W .any base t v := hval0
  have hW' := hW
  obtain ⟨p, q, hA0, hV, rfl, hfz, hnd⟩ := hW
  have hA : DataW.TrodAll enc Try.prog W 0 (fun _ => true) true Try.f12.params.toList args.toList ds p := hA0
  rw [Try.params12] at hA hval
  obtain ⟨v0, vs0, d0, ds0, p0, q0, hargs, rfl, rfl, h0, r0⟩ := trodAll_cons hA
  obtain ⟨v1, vs1, d1, ds1, p1, q1, rfl, rfl, rfl, h1, r1⟩ := trodAll_cons r0
  obtain ⟨v2, vs2, d2, ds2, p2, q2, rfl, rfl, rfl, h2, r2⟩ := trodAll_cons r1
  obtain ⟨rfl, rfl, rfl⟩ := trodAll_nil r2
  obtain rfl : args = #[v0, v1, v2] := by cases args; simp_all
  obtain ⟨rfl, rfl⟩ := trodVars_none hV
  have k0 := h0
  have lt0 : ∀ x ∈ p0, x.block < W.heap.size := by obtain ⟨m, hm⟩ := k0; exact DataW.trod_lt m _ _ _ hm
  obtain ⟨cs0, rfl, _, _⟩ : ∃ cs, v0 = .agg cs ∧ cs.size = Try.prog.cellsOf 26 ∧ Row.okWide Try.prog W .any base 26 cs := by
    have z := (hval 0 26 v0 rfl rfl)
    unfold Value.okWide at z
    rw [Try.underlying26] at z
    exact z
  obtain ⟨x0, ok0, rv0⟩ := Rd.argG (fun m => rdE m) h0
  have k1 := h1
  have lt1 : ∀ x ∈ p1, x.block < W.heap.size := by obtain ⟨m, hm⟩ := k1; exact DataW.trod_lt m _ _ _ hm
  obtain ⟨a1, len1, cap1, rfl⟩ := okWide_slice Try.underlying61 (hval 1 61 v1 rfl rfl)
  obtain ⟨x1, ok1, rv1⟩ := Rd.arg1 (c := fun l : List Val => .sl 3 (l.map eV)) rdVs rfl h1
  have k2 := h2
  have lt2 : ∀ x ∈ p2, x.block < W.heap.size := by obtain ⟨m, hm⟩ := k2; exact DataW.trod_lt m _ _ _ hm
  obtain ⟨a2, len2, cap2, rfl⟩ := okWide_slice Try.underlying61 (hval 2 61 v2 rfl rfl)
  obtain ⟨x2, ok2, rv2⟩ := Rd.arg1 (c := fun l : List Val => .sl 3 (l.map eV)) rdVs rfl h2
  clear hA0 hval0 hsz0
  refine (((pure x0 x1 x2 ok0 ok1 ok2) (fun _ => none)).out (top W) W _ (top_inv W) ⟨rfl, fun j r v q1 q2 => ?_⟩).mono fun e W' ⟨G', r, st', v, ⟨hr, _⟩, he, hx, _, hv⟩ => ?_
  · match j, q1, q2 with
    | 0, q1, q2 => cases q1; cases q2; exact rv0
    | 1, q1, q2 => cases q1; cases q2; exact rv1
    | 2, q1, q2 => cases q1; cases q2; exact rv2
    | j + 3, q1, q2 => simp at q1
  have bel : Below W.heap.size W W' := hx.below
  subst he
  subst hr
  obtain rfl : v = .bool true := by have hc := hv.cel; cases hc; rfl
  exact ⟨_, rfl, _, _, _, [], _, [], hW', trodAll_mk1 (shut_bool Try.underlying4 _), (trodAll_cons_mk (Below.trod laidOut (by kernel_rfl) (of_decide_eq_true (by kernel_rfl)) k0 bel lt0) (trodAll_cons_mk (Below.trod laidOut (by kernel_rfl) (of_decide_eq_true (by kernel_rfl)) k1 bel lt1) (trodAll_cons_mk (Below.trod laidOut (by kernel_rfl) (of_decide_eq_true (by kernel_rfl)) k2 bel lt2) trodAll_mk0))), rfl, bel.frame _, fun h => by cases h⟩
theorem over (pure : ∀ (x0 : Ex) (x1 : List Val) (x2 : List Val), wfE x0 → wfVs x1 → wfVs x2 → Is Try.prog 12 [.g (eE x0), .c (.sl 3 (x1.map eV)), .c (.sl 3 (x2.map eV))] (vB true)) : Rows.evalLooseRow.holds Try.pinned (OpenSpec.ofChange Rows.evalLooseSpec) :=
  OpenClaim.holds_of_wide 12 Try.f12 rfl rfl rfl rfl rfl rfl rfl ⟨rfl, rfl, rfl, rfl, rfl⟩ rfl rfl rfl rfl rfl (by kernel_rfl) Try.func12 (by kernel_rfl)
    (of_decide_eq_true (by kernel_rfl)) (by unfold Func.isWrapper; first | (rw [if_pos (by decide +kernel)]; kernel_rfl) | (rw [if_neg (by decide +kernel)]; exact ⟨rfl, rfl⟩))
    (fun os started H enc _ => lifted pure os started H enc)
end Go.Proofs.Ytbmgenifdlgbmaa.D.evalLoose
namespace Go.Proofs.Ytbmgenifdlgbmaa
/-- The law EvalLoose, for every input. -/
theorem evalLoose_holds : Rows.EvalLooseSaid := Go.Proofs.Ytbmgenifdlgbmaa.D.evalLoose.over fun x0 x1 x2 h0 h1 h2 => Go.Proofs.Ytbmgenifdlgbmaa.D.evalLoose_law x0 x1 x2 h0 h1 h2
#print axioms evalLoose_holds
end Go.Proofs.Ytbmgenifdlgbmaa
