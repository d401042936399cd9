/- Words and contracts: a plain machine over the model, and what the functions that a law reaches come to, each for every input that its theorem names. -/
import Derived.Test.YtgbdhakkgnmeoaaK2
import Derived.Test.YtgbdhakkgnmeoaaK1
namespace Go.Proofs.Ytgbdhakkgnmeoaa.D
set_option linter.unusedVariables false
set_option linter.unusedSimpArgs false
open Go Go.Proofs.Ytgbdhakkgnmeoaa.D.Pm
set_option maxRecDepth 4000
def colX (n : ByteArray) : Ex := .mk 2 0 ⟨0, 0, ⟨#[]⟩⟩ n []
theorem col10_is (n : ByteArray) : Is Try.prog 16 [vS n] (.g (eE (colX n))) := by
  refine Is.of TP Try.func16 rfl rfl (Nat.le_of_ble_eq_true rfl) fun st => Pw.of TP [] ?_
  conv => whnf
  intro id1 h1
  conv => whnf
  refine ⟨_, upd_same _ _ _, Nat.le_of_ble_eq_true rfl, ?_⟩
  conv => whnf
  refine ⟨_, upd_same _ _ _, ?_⟩
  conv => whnf
  refine ⟨fun _ => false, st, .g (eE (colX n)), .gl (.cons (.refl _) (.cons (.refl _) (.cons (.refl _) (.cons (.refl _) (.cons (.refl _) (.cons (.refl _) (.cons (.nil 7) .nil))))))), fun id o ho => ⟨((Le.refl st).up h1).up2 h1 _ _ ho, rfl⟩, rfl, rfl⟩
def binX (op : Int) (a b : Ex) : Ex := .mk 5 op ⟨0, 0, ⟨#[]⟩⟩ ⟨#[]⟩ [a, b]
def wX : Ex := binX 2 (binX 1 (colX ⟨#[97]⟩) (colX ⟨#[98]⟩)) (colX ⟨#[99]⟩)
theorem wX_ok : okE wX := by
  unfold wX binX colX
  simp only [okE, okEs]
  decide
theorem wX_check : checkE true wX = 0 := by kernel_rfl
theorem wX_nl : allE nlE wX = true := by kernel_rfl
theorem wX_text : textE (fun _ => ⟨#[]⟩) wX = ⟨#[40, 97, 32, 79, 82, 32, 98, 41, 32, 65, 78, 68, 32, 99]⟩ := by kernel_rfl
theorem works10_is : Is Try.prog 6 [] (vB true) := by
  have hp : Is Try.prog 15 [.g (eE wX)] (.t [vS ⟨#[40, 97, 32, 79, 82, 32, 98, 41, 32, 65, 78, 68, 32, 99]⟩, vI .i64 0]) :=
    (print_is (fun _ => ⟨#[]⟩) wX wX_ok wX_check wX_nl (by rw [wX_text]; decide) (by rw [wX_text]; decide)).eq (by rw [wX_text])
  refine Is.of TP Try.func6 rfl rfl (Nat.le_of_ble_eq_true rfl) fun st => Pw.of TP [] ?_
  conv => whnf
  refine (col10_is _).call ?_
  conv => whnf
  refine (col10_is _).call ?_
  conv => whnf
  refine (col10_is _).call ?_
  conv => whnf
  refine hp.call ?_
  conv => whnf
  refine ⟨fun _ => ?_, fun h => absurd rfl h⟩
  conv => whnf
  refine ⟨fun _ => ?_, fun h => absurd rfl h⟩
  conv => whnf
  exact Fin.old rfl (.refl _)
theorem height_is : ∀ e, okE e → nodes e ≤ Lim → Is Try.prog 9 [.g (eE e)] (vI .i64 (height e : Nat)) := by
  refine Ex.ind fun k op v n kids ih ok hn => ?_
  rw [nodes] at hn
  have hh := heights_nodes kids
  unfold Lim at hn
  refine Is.of TP Try.func9 rfl rfl (Nat.le_of_ble_eq_true rfl) fun st => Pw.of TP [] ?_
  conv => whnf
  refine Pw.rng (τ := Nat) 9 kids.length ok.2.2.1 [1, 7, 8] (fun m => [(3, vI .i64 m)]) (fun i m => m = heights (kids.take i)) 0 rfl ⟨rfl, trivial⟩ rfl fun i m hi hx => Pw.of TP [] ?_
  conv => whnf
  refine ⟨fun h => ?_, fun h => ?_⟩ <;> conv => whnf
  · have hi' := ltE ‹_›
    refine ixE hi' ?_
    have hm := ih kids[i] (List.getElem_mem hi') (okEs_all ok.2.2.2 _ (List.getElem_mem hi')) (Nat.le_trans (nodes_mem (List.getElem_mem hi')) (by unfold Lim; omega))
    have hs := heights_take hi'
    generalize kids[i] = e at hm hs ⊢
    generalize height e = he at hm hs
    cases e
    conv => whnf
    refine hm.call ?_
    conv => whnf
    refine ⟨hi', rfl, ⟨rfl, rfl, rfl, trivial⟩, max m he, ⟨?_, trivial⟩, .refl _, by rw [hs, ← hx]⟩
    conv => lhs; whnf
    refine congrArg (fun z => some (vI .i64 z)) ?_
    split <;> omega
  · obtain rfl := nltE ‹_› hi
    rw [List.take_length] at hx
    refine Fin.old (congrArg (vI .i64) ?_) (.refl _)
    rw [wrap_id (by omega) (by omega), height, hx]; rfl
theorem exprChecks_law (e : Ex) (slots : Bool) (_ : wfE e) (_ : True) : Is Try.prog 3 [.g (eE e), vB slots] (vB true) := by
  have h0 := few_is e 60 (by decide)
  have h1 := fun ok => check_is e ok slots
  have h2 := fun ok hn => rcheck_is e ok hn slots
  have h3 := fun ok hn => height_is e ok hn
  have h4 := fun ok hn => rheight_is e ok hn
  have ho : fewE 60 e = true → okE e ∧ nodes e ≤ Lim := fun h => by
    unfold fewE at h
    cases hc : cnt e 60 with
    | none => rw [hc] at h; cases h
    | some m =>
      obtain ⟨g1, g2, g3⟩ := cnt_ok e 60 m hc
      exact ⟨g1, by unfold Lim; omega⟩
  cases e
  refine Is.of TP Try.func3 rfl rfl (Nat.le_of_ble_eq_true rfl) fun st => Pw.of TP [] ?_
  conv => whnf
  refine Is.callB h0 fun q hq => ?_
  cases q <;> conv => whnf
  · refine works10_is.call ?_
    conv => whnf
    exact Fin.old rfl (.refl _)
  obtain ⟨ok, hn⟩ := ho hq
  refine Pw.drw TP mixed (by kernel_rfl) ?_; conv => whnf
  refine Is.draw (h1 ok) ?_
  conv => whnf
  refine Is.draw (h2 ok hn) ?_
  conv => whnf
  refine ⟨fun _ => ?_, fun h => absurd rfl h⟩
  conv => whnf
  refine Is.draw (h3 ok hn) ?_
  conv => whnf
  refine Is.draw (h4 ok hn) ?_
  conv => whnf
  refine ⟨fun _ => ?_, fun h => absurd rfl h⟩
  conv => whnf
  refine Is.draw works10_is ?_
  conv => whnf
  exact Fin.old rfl (.refl _)
end Go.Proofs.Ytgbdhakkgnmeoaa.D
