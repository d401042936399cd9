/- The law HeapPlays holds for every input, without a condition: the row, out of the law's walk. -/
import Derived.Test.YtfkkajibaeppbaaRows
import Derived.Test.YtfkkajibaeppbaaLHeapPlays
import Derived.WalkKit
import Derived.ProofKit
import Derived.OpenShut
import Derived.ShutString
import Derived.ChangeOld
import Derived.Below
import Derived.SizedLaws
namespace Go.Proofs.Ytfkkajibaeppbaa.D.heapPlays
set_option linter.unusedVariables false
set_option linter.unusedSimpArgs false
open Go Go.ChangeShapes Go.WideShapes Go.ChangeAt Go.RowKit Go.Proofs.Ytfkkajibaeppbaa.D Go.Proofs.Ytfkkajibaeppbaa.D.Pm
open Go.Proofs.Ytfkkajibaeppbaa
theorem own : ownKnob Try.prog.godebug = none := by kernel_rfl
theorem laidOut : laidOutB Try.prog = true := by kernel_rfl
set_option maxRecDepth 100000 in
theorem lifted (pure : ∀ (x0 : List HAct), wfHActs x0 → Is Try.prog 7 [.c (.sl 5 (x0.map eHA))] (vB true)) (os : Os) (started : os.Started) (H : Type) (enc : TypeId × Value → H) :
    ReturnsInHanded {} Try.checked os 7 .any (Rows.heapPlaysSpec.pre6 enc Try.prog Try.f7 Rows.heapPlaysRow.domain false) (Rows.heapPlaysSpec.post enc Try.prog Try.f7 false true false false) := by
  refine returnsInHanded_of_change_sized (C := Try.checked) own started (by kernel_rfl) Try.func7
    (ChangeSpec.witness6 (enc := enc) (C := Try.checked) false ⟨#[], #[.slice none 0 0], []⟩ 8 (by kernel_rfl) (by kernel_rfl) (by kernel_rfl) (by kernel_rfl)) ?_
  intro W base args ds gs before hval0 hW hcnd hsz0 _
  have hval : ∀ (j : Nat) t v, Try.f7.params[j]? = some t → args[j]? = some v → Value.okWide Try.prog W .any base t v := hval0
  have hW' := hW
  obtain ⟨p, q, hA0, hV, rfl, hfz, hnd⟩ := hW
  have hA : DataW.TrodAll enc Try.prog W 0 (fun _ => true) true Try.f7.params.toList args.toList ds p := hA0
  rw [Try.params7] at hA hval
  obtain ⟨v0, vs0, d0, ds0, p0, q0, hargs, rfl, rfl, h0, r0⟩ := trodAll_cons hA
  obtain ⟨rfl, rfl, rfl⟩ := trodAll_nil r0
  obtain rfl : args = #[v0] := by cases args; simp_all
  obtain ⟨rfl, rfl⟩ := trodVars_none hV
  have k0 := h0
  have lt0 : ∀ x ∈ p0, x.block < W.heap.size := by obtain ⟨m, hm⟩ := k0; exact DataW.trod_lt m _ _ _ hm
  obtain ⟨a0, len0, cap0, rfl⟩ := okWide_slice Try.underlying51 (hval 0 51 v0 rfl rfl)
  obtain ⟨x0, ok0, rv0⟩ := Rd.arg1 (c := fun l : List HAct => .sl 5 (l.map eHA)) rdHActs rfl h0
  clear hA0 hval0 hsz0
  refine (((pure x0 ok0) (fun _ => none)).out (top W) W _ (top_inv W) ⟨rfl, fun j r v q1 q2 => ?_⟩).mono fun e W' ⟨G', r, st', v, ⟨hr, _⟩, he, hx, _, hv⟩ => ?_
  · match j, q1, q2 with
    | 0, q1, q2 => cases q1; cases q2; exact rv0
    | j + 1, q1, q2 => simp at q1
  have bel : Below W.heap.size W W' := hx.below
  subst he
  subst hr
  obtain rfl : v = .bool true := by have hc := hv.cel; cases hc; rfl
  exact ⟨_, rfl, _, _, _, [], _, [], hW', trodAll_mk1 (shut_bool Try.underlying4 _), (trodAll_cons_mk (Below.trod laidOut (by kernel_rfl) (of_decide_eq_true (by kernel_rfl)) k0 bel lt0) trodAll_mk0), rfl, bel.frame _, fun h => by cases h⟩
theorem over (pure : ∀ (x0 : List HAct), wfHActs x0 → Is Try.prog 7 [.c (.sl 5 (x0.map eHA))] (vB true)) : Rows.heapPlaysRow.holds Try.pinned (OpenSpec.ofChange Rows.heapPlaysSpec) :=
  OpenClaim.holds_of_wide 7 Try.f7 rfl rfl rfl rfl rfl rfl rfl ⟨rfl, rfl, rfl, rfl, rfl⟩ rfl rfl rfl rfl rfl (by kernel_rfl) Try.func7 (by kernel_rfl)
    (of_decide_eq_true (by kernel_rfl)) (by unfold Func.isWrapper; first | (rw [if_pos (by decide +kernel)]; kernel_rfl) | (rw [if_neg (by decide +kernel)]; exact ⟨rfl, rfl⟩))
    (fun os started H enc _ => lifted pure os started H enc)
end Go.Proofs.Ytfkkajibaeppbaa.D.heapPlays
namespace Go.Proofs.Ytfkkajibaeppbaa
/-- The law HeapPlays, for every input. -/
theorem heapPlays_holds : Rows.HeapPlaysSaid := Go.Proofs.Ytfkkajibaeppbaa.D.heapPlays.over fun x0 h0 => Go.Proofs.Ytfkkajibaeppbaa.D.heapPlays_law x0 h0
#print axioms heapPlays_holds
end Go.Proofs.Ytfkkajibaeppbaa
