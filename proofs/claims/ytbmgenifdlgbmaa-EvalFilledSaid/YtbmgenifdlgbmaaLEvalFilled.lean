/- Words and contracts: a plain machine over the model, and what the functions that a law reaches come to, each for every input that its theorem names. -/
import Derived.Test.YtbmgenifdlgbmaaK3
import Derived.Test.YtbmgenifdlgbmaaK1
import Derived.Test.YtbmgenifdlgbmaaV2
namespace Go.Proofs.Ytbmgenifdlgbmaa.D
set_option linter.unusedVariables false
set_option linter.unusedSimpArgs false
open Go Go.Proofs.Ytbmgenifdlgbmaa.D.Pm
set_option maxRecDepth 4000
theorem xheight_is : ∀ e, okE e → nodes e ≤ Lim → Is Try.prog 94 [.g (eE e)] (vI .i64 (height e : Nat)) := by
  refine Ex.ind fun k op v n kids ih ok hn => ?_
  rw [nodes] at hn
  have hh := heights_nodes kids
  unfold Lim at hn
  refine Is.of TP Try.func94 rfl rfl (Nat.le_of_ble_eq_true rfl) fun st => Pw.of TP [] ?_
  conv => whnf
  refine Pw.rng (τ := Nat) 9 kids.length ok.2.2.1 [1, 7, 8] (fun m => [(3, vI .i64 m)]) (fun i m => m = heights (kids.take i)) 0 rfl ⟨rfl, trivial⟩ rfl fun i m hi hx => Pw.of TP [] ?_
  conv => whnf
  repeat' (first | (refine ⟨fun h => ?_, fun h => ?_⟩ <;> conv => whnf) | fail)
  · have hi' := ltE ‹_›
    refine ixE hi' ?_
    have hm := ih kids[i] (List.getElem_mem hi') (okEs_all ok.2.2.2 _ (List.getElem_mem hi')) (Nat.le_trans (nodes_mem (List.getElem_mem hi')) (by unfold Lim; omega))
    have hs := heights_take hi'
    generalize kids[i] = e at hm hs ⊢
    generalize height e = he at hm hs
    cases e
    conv => whnf
    refine hm.call ?_
    conv => whnf
    have key : (if (he : Int) > (m : Int) then (he : Int) else (m : Int)) = ((heights (kids.take (i + 1)) : Nat) : Int) := by
      rw [hs, ← hx]; split <;> omega
    exact ⟨hi', rfl, ⟨rfl, rfl, rfl, trivial⟩, heights (kids.take (i + 1)), ⟨congrArg (fun x => some (vI .i64 x)) key, trivial⟩, .refl _, rfl⟩
  · obtain rfl := nltE ‹_› hi
    rw [List.take_length] at hx
    refine Fin.old (congrArg (vI .i64) ?_) (.refl _)
    rw [wrap_id (by omega) (by omega), height, hx]; rfl
/-- a value as an expression -/
def litX (v : Val) : Ex := .mk 1 0 v ⟨#[]⟩ []
def litE (v : Val) : Ex :=
  if v.k ≠ 1 ∨ 0 ≤ v.n then litX v
  else if v.n = -9223372036854775808 then .mk 5 10 zV ⟨#[]⟩ [.mk 4 1 zV ⟨#[]⟩ [litX ⟨1, 9223372036854775807, ⟨#[]⟩⟩], litX ⟨1, 1, ⟨#[]⟩⟩]
  else .mk 4 1 zV ⟨#[]⟩ [litX ⟨1, -v.n, ⟨#[]⟩⟩]
theorem Fin.lit {st0 st : Sto} {v : Val} {t : AC} {e : Ex} (he : e = litX v) (h : Le st0 st) : Fin (fun r s => r = .g (eE e) ∧ s = st0) (.g [.v (.int .i64 1), .v (.int .i64 0), .v (.int .i64 v.k), .v (.int .i64 v.n), .v (.string v.s), .v (.string ⟨#[]⟩), .v (.slice none 0 0)]) st := by
  subst he
  exact ⟨fun _ => false, st0, .g (eE (litX v)), FV.gl (.cons (.refl _) (.cons (.refl _) (.cons (.refl _) (.cons (.refl _) (.cons (.refl _) (.cons (.refl _) (.cons (.nil 7) .nil))))))), fun i o ho => ⟨h i o ho, rfl⟩, rfl, rfl⟩
theorem lit0_is (v : Val) (h0 : v.k ≠ 1 ∨ 0 ≤ v.n) : Is Try.prog 123 [.g (eV v)] (.g (eE (litX v))) := by
  refine Is.of TP Try.func123 rfl rfl (Nat.le_of_ble_eq_true rfl) fun st => Pw.of TP [] ?_
  conv => whnf
  intro id hid
  conv => whnf
  repeat' (first | (refine ⟨fun h => ?_, fun h => ?_⟩ <;> conv => whnf) | (apply Exists.intro; apply And.intro; (first | ((with_reducible (repeat (refine Eq.trans (upd_ne _ ?_) ?_; (first | assumption | (apply Ne.symm; assumption))))); first | exact upd_same _ _ _ | assumption) | ((repeat (refine Eq.trans (upd_ne _ ?_) ?_; (first | assumption | (apply Ne.symm; assumption)))); first | exact upd_same _ _ _ | assumption)); refine ⟨Nat.le_of_ble_eq_true rfl, ?_⟩; conv => whnf) | (apply Exists.intro; apply And.intro; (first | ((with_reducible (repeat (refine Eq.trans (upd_ne _ ?_) ?_; (first | assumption | (apply Ne.symm; assumption))))); first | exact upd_same _ _ _ | assumption) | ((repeat (refine Eq.trans (upd_ne _ ?_) ?_; (first | assumption | (apply Ne.symm; assumption)))); first | exact upd_same _ _ _ | assumption)); conv => whnf))
  all_goals first | exact Fin.lit (t := .v (.bool true)) rfl (by (first | (with_reducible (iterate 24 (try any_goals (first | exact Le.refl _ | assumption | apply Le.up2))); done) | (iterate 24 (try any_goals (first | exact Le.refl _ | assumption | apply Le.up2))))) | skip
  all_goals (exfalso; omega)
theorem lit1_is (v : Val) (h0 : ¬ (v.k ≠ 1 ∨ 0 ≤ v.n)) (h1 : v.n ≠ -9223372036854775808) (hv : in64 v.n) : Is Try.prog 123 [.g (eV v)] (.g (eE (litE v))) := by
  have e : litE v = .mk 4 1 zV ⟨#[]⟩ [litX ⟨1, -v.n, ⟨#[]⟩⟩] := by unfold litE; rw [if_neg h0, if_neg h1]
  rw [e]
  have c := lit0_is ⟨1, -v.n, ⟨#[]⟩⟩ (.inr (by show 0 ≤ -v.n; omega))
  refine Is.of TP Try.func123 rfl rfl (Nat.le_of_ble_eq_true rfl) fun st => Pw.of TP [] ?_
  conv => whnf
  intro id hid
  conv => whnf
  have hb : res (-v.n) = (-v.n, 0) := res_in (by unfold in64 at *; omega)
  repeat' (first | (refine ⟨fun h => ?_, fun h => ?_⟩ <;> conv => whnf) | (apply Exists.intro; apply And.intro; (first | ((with_reducible (repeat (refine Eq.trans (upd_ne _ ?_) ?_; (first | assumption | (apply Ne.symm; assumption))))); first | exact upd_same _ _ _ | assumption) | ((repeat (refine Eq.trans (upd_ne _ ?_) ?_; (first | assumption | (apply Ne.symm; assumption)))); first | exact upd_same _ _ _ | assumption)); refine ⟨Nat.le_of_ble_eq_true rfl, ?_⟩; conv => whnf) | (apply Exists.intro; apply And.intro; (first | ((with_reducible (repeat (refine Eq.trans (upd_ne _ ?_) ?_; (first | assumption | (apply Ne.symm; assumption))))); first | exact upd_same _ _ _ | assumption) | ((repeat (refine Eq.trans (upd_ne _ ?_) ?_; (first | assumption | (apply Ne.symm; assumption)))); first | exact upd_same _ _ _ | assumption)); conv => whnf) | (refine Is.callN (back_is hv) fun x y e => ?_; rw [hb] at e; cases e; conv => whnf) | (refine c.call ?_; conv => whnf))
  all_goals first | (exfalso; omega) | skip
  exact Fin.old rfl (by (first | (with_reducible (iterate 24 (try any_goals (first | exact Le.refl _ | assumption | apply Le.up2))); done) | (iterate 24 (try any_goals (first | exact Le.refl _ | assumption | apply Le.up2)))))
theorem lit2_is (v : Val) (h0 : ¬ (v.k ≠ 1 ∨ 0 ≤ v.n)) (h1 : v.n = -9223372036854775808) : Is Try.prog 123 [.g (eV v)] (.g (eE (litE v))) := by
  have e : litE v = .mk 5 10 zV ⟨#[]⟩ [.mk 4 1 zV ⟨#[]⟩ [litX ⟨1, 9223372036854775807, ⟨#[]⟩⟩], litX ⟨1, 1, ⟨#[]⟩⟩] := by unfold litE; rw [if_neg h0, if_pos h1]
  rw [e]
  have c := lit1_is ⟨1, -9223372036854775807, ⟨#[]⟩⟩ (by decide) (by decide) (by unfold in64; decide)
  have c1 := lit0_is ⟨1, 1, ⟨#[]⟩⟩ (by decide)
  have e2 : litE ⟨1, -9223372036854775807, ⟨#[]⟩⟩ = .mk 4 1 zV ⟨#[]⟩ [litX ⟨1, 9223372036854775807, ⟨#[]⟩⟩] := by unfold litE; rw [if_neg (by decide), if_neg (by decide)]; rfl
  rw [e2] at c
  obtain ⟨k, n, s⟩ := v
  dsimp only at h0 h1
  subst h1
  have hk : k = 1 := by omega
  subst hk
  refine Is.of TP Try.func123 rfl rfl (Nat.le_of_ble_eq_true rfl) fun st => Pw.of TP [] ?_
  conv => whnf
  intro id hid
  conv => whnf
  have hb : res (- -9223372036854775808) = (0, 10) := by decide
  repeat' (first | (refine ⟨fun h => ?_, fun h => ?_⟩ <;> conv => whnf) | (apply Exists.intro; apply And.intro; (first | ((with_reducible (repeat (refine Eq.trans (upd_ne _ ?_) ?_; (first | assumption | (apply Ne.symm; assumption))))); first | exact upd_same _ _ _ | assumption) | ((repeat (refine Eq.trans (upd_ne _ ?_) ?_; (first | assumption | (apply Ne.symm; assumption)))); first | exact upd_same _ _ _ | assumption)); refine ⟨Nat.le_of_ble_eq_true rfl, ?_⟩; conv => whnf) | (apply Exists.intro; apply And.intro; (first | ((with_reducible (repeat (refine Eq.trans (upd_ne _ ?_) ?_; (first | assumption | (apply Ne.symm; assumption))))); first | exact upd_same _ _ _ | assumption) | ((repeat (refine Eq.trans (upd_ne _ ?_) ?_; (first | assumption | (apply Ne.symm; assumption)))); first | exact upd_same _ _ _ | assumption)); conv => whnf) | (refine Is.callN (back_is (a := -9223372036854775808) (by unfold in64; decide)) fun x y e => ?_; rw [hb] at e; cases e; conv => whnf) | (refine c.call ?_; conv => whnf))
  all_goals first | (exfalso; dsimp only at *; omega) | skip
  refine Pw.drwC TP mixed [3, 4, 5] (by kernel_rfl) ?_; conv => whnf
  refine Is.draw c1 ?_
  conv => whnf
  intro id2 hid2
  conv => whnf
  have hne : id ≠ id2 := fresh_ne hid2 (upd_same _ _ _)
  have hn2 : st id2 = none := Le.none (by (first | (with_reducible (iterate 24 (try any_goals (first | exact Le.refl _ | assumption | apply Le.up2))); done) | (iterate 24 (try any_goals (first | exact Le.refl _ | assumption | apply Le.up2))))) hid2
  clear hid2
  (apply Exists.intro; apply And.intro; (first | ((with_reducible (repeat (refine Eq.trans (upd_ne _ ?_) ?_; (first | assumption | (apply Ne.symm; assumption))))); first | exact upd_same _ _ _ | assumption) | ((repeat (refine Eq.trans (upd_ne _ ?_) ?_; (first | assumption | (apply Ne.symm; assumption)))); first | exact upd_same _ _ _ | assumption)); refine ⟨Nat.le_of_ble_eq_true rfl, ?_⟩; conv => whnf)
  (apply Exists.intro; apply And.intro; (first | ((with_reducible (repeat (refine Eq.trans (upd_ne _ ?_) ?_; (first | assumption | (apply Ne.symm; assumption))))); first | exact upd_same _ _ _ | assumption) | ((repeat (refine Eq.trans (upd_ne _ ?_) ?_; (first | assumption | (apply Ne.symm; assumption)))); first | exact upd_same _ _ _ | assumption)); conv => whnf)
  refine ⟨only id2, st, .g (eE (.mk 5 10 zV ⟨#[]⟩ [.mk 4 1 zV ⟨#[]⟩ [litX ⟨1, 9223372036854775807, ⟨#[]⟩⟩], litX ⟨1, 1, ⟨#[]⟩⟩])), FV.gl (.cons (.refl _) (.cons (.refl _) (.cons (.refl _) (.cons (.refl _) (.cons (.refl _) (.cons (.refl _) (.cons
    (Fz.arr0 (sz := 7) (rows := [eE (.mk 4 1 zV ⟨#[]⟩ [litX ⟨1, 9223372036854775807, ⟨#[]⟩⟩]), eE (litX ⟨1, 1, ⟨#[]⟩⟩)]) (by simp [only]) (by (first | ((with_reducible (repeat (refine Eq.trans (upd_ne _ ?_) ?_; (first | assumption | (apply Ne.symm; assumption))))); first | exact upd_same _ _ _ | assumption) | ((repeat (refine Eq.trans (upd_ne _ ?_) ?_; (first | assumption | (apply Ne.symm; assumption)))); first | exact upd_same _ _ _ | assumption))) (fun r hr => ?_)) .nil))))))), fun i o ho => ⟨(by (first | (with_reducible (iterate 24 (try any_goals (first | exact Le.refl _ | assumption | apply Le.up2))); done) | (iterate 24 (try any_goals (first | exact Le.refl _ | assumption | apply Le.up2)))) : Le st _) i o ho, ?_⟩, rfl, rfl⟩
  · rcases List.mem_cons.1 hr with rfl | hr
    · rfl
    · rcases List.mem_cons.1 hr with rfl | hr
      · rfl
      · cases hr
  · have : i ≠ id2 := fun e => by subst e; rw [hn2] at ho; cases ho
    simp [only, this]
theorem lit_is (v : Val) (hv : in64 v.n) : Is Try.prog 123 [.g (eV v)] (.g (eE (litE v))) := by
  by_cases h0 : v.k ≠ 1 ∨ 0 ≤ v.n
  · have := lit0_is v h0
    rw [show litE v = litX v by unfold litE; rw [if_pos h0]]
    exact this
  · by_cases h1 : v.n = -9223372036854775808
    · exact lit2_is v h0 h1
    · exact lit1_is v h0 h1 hv
def eX (v : Val) : List AC := [.v (.int .i64 1), .v (.int .i64 0), .v (.int .i64 v.k), .v (.int .i64 v.n), .v (.string v.s), .v (.string ⟨#[]⟩), .v (.slice none 0 0)]
theorem fzX {D : Nat → Bool} {st : Sto} (v : Val) : F2 (Fz D st) (eX v) (eE (litX v)) := .cons (.refl _) (.cons (.refl _) (.cons (.refl _) (.cons (.refl _) (.cons (.refl _) (.cons (.refl _) (.cons (.nil 7) .nil))))))
theorem fzU {D : Nat → Bool} {st : Sto} (w : Val) : F2 (Fz D st) [.v (.int .i64 4), .v (.int .i64 1), .v (.int .i64 0), .v (.int .i64 0), .v (.string ⟨#[]⟩), .v (.string ⟨#[]⟩), .sl 7 [eX w]] (eE (.mk 4 1 zV ⟨#[]⟩ [litX w])) :=
  .cons (.refl _) (.cons (.refl _) (.cons (.refl _) (.cons (.refl _) (.cons (.refl _) (.cons (.refl _) (.cons (Fz.sl2 (.cons (fzX w) .nil) (fun r hr => by
    rcases List.mem_cons.1 hr with rfl | hr
    · rfl
    · cases hr)) .nil))))))
theorem rlit_is (v : Val) (hv : in64 v.n) : Is Try.prog 124 [.g (eV v)] (.g (eE (litE v))) := by
  by_cases h0 : v.k ≠ 1 ∨ 0 ≤ v.n
  · rw [show litE v = litX v by unfold litE; rw [if_pos h0]]
    refine Is.of TP Try.func124 rfl rfl (Nat.le_of_ble_eq_true rfl) fun st => Pw.of TP [] ?_
    conv => whnf
    intro id hid
    conv => whnf
    repeat' (first | (refine ⟨fun h => ?_, fun h => ?_⟩ <;> conv => whnf) | (apply Exists.intro; apply And.intro; (first | ((with_reducible (repeat (refine Eq.trans (upd_ne _ ?_) ?_; (first | assumption | (apply Ne.symm; assumption))))); first | exact upd_same _ _ _ | assumption) | ((repeat (refine Eq.trans (upd_ne _ ?_) ?_; (first | assumption | (apply Ne.symm; assumption)))); first | exact upd_same _ _ _ | assumption)); refine ⟨Nat.le_of_ble_eq_true rfl, ?_⟩; conv => whnf) | (apply Exists.intro; apply And.intro; (first | ((with_reducible (repeat (refine Eq.trans (upd_ne _ ?_) ?_; (first | assumption | (apply Ne.symm; assumption))))); first | exact upd_same _ _ _ | assumption) | ((repeat (refine Eq.trans (upd_ne _ ?_) ?_; (first | assumption | (apply Ne.symm; assumption)))); first | exact upd_same _ _ _ | assumption)); conv => whnf))
    all_goals first | exact Fin.lit (t := .v (.bool true)) rfl (by (first | (with_reducible (iterate 24 (try any_goals (first | exact Le.refl _ | assumption | apply Le.up2))); done) | (iterate 24 (try any_goals (first | exact Le.refl _ | assumption | apply Le.up2))))) | (exfalso; omega)
  · by_cases h1 : v.n = -9223372036854775808
    · have e : litE v = .mk 5 10 zV ⟨#[]⟩ [.mk 4 1 zV ⟨#[]⟩ [litX ⟨1, 9223372036854775807, ⟨#[]⟩⟩], litX ⟨1, 1, ⟨#[]⟩⟩] := by unfold litE; rw [if_neg h0, if_pos h1]
      rw [e]
      obtain ⟨k, n, s⟩ := v
      dsimp only at h0 h1
      subst h1
      have hk : k = 1 := by omega
      subst hk
      refine Is.of TP Try.func124 rfl rfl (Nat.le_of_ble_eq_true rfl) fun st => Pw.of TP [] ?_
      conv => whnf
      intro id hid
      conv => whnf
      repeat' (first | (refine ⟨fun h => ?_, fun h => ?_⟩ <;> conv => whnf) | (apply Exists.intro; apply And.intro; (first | ((with_reducible (repeat (refine Eq.trans (upd_ne _ ?_) ?_; (first | assumption | (apply Ne.symm; assumption))))); first | exact upd_same _ _ _ | assumption) | ((repeat (refine Eq.trans (upd_ne _ ?_) ?_; (first | assumption | (apply Ne.symm; assumption)))); first | exact upd_same _ _ _ | assumption)); refine ⟨Nat.le_of_ble_eq_true rfl, ?_⟩; conv => whnf) | (apply Exists.intro; apply And.intro; (first | ((with_reducible (repeat (refine Eq.trans (upd_ne _ ?_) ?_; (first | assumption | (apply Ne.symm; assumption))))); first | exact upd_same _ _ _ | assumption) | ((repeat (refine Eq.trans (upd_ne _ ?_) ?_; (first | assumption | (apply Ne.symm; assumption)))); first | exact upd_same _ _ _ | assumption)); conv => whnf))
      all_goals first | (exfalso; dsimp only at *; omega) | skip
      refine ⟨fun _ => false, st, .g (eE (.mk 5 10 zV ⟨#[]⟩ [.mk 4 1 zV ⟨#[]⟩ [litX ⟨1, 9223372036854775807, ⟨#[]⟩⟩], litX ⟨1, 1, ⟨#[]⟩⟩])), FV.gl (.cons (.refl _) (.cons (.refl _) (.cons (.refl _) (.cons (.refl _) (.cons (.refl _) (.cons (.refl _) (.cons (Fz.sl2 (.cons (fzU ⟨1, 9223372036854775807, ⟨#[]⟩⟩) (.cons (fzX ⟨1, 1, ⟨#[]⟩⟩) .nil)) ?_) .nil))))))), fun i o ho => ⟨(by (first | (with_reducible (iterate 24 (try any_goals (first | exact Le.refl _ | assumption | apply Le.up2))); done) | (iterate 24 (try any_goals (first | exact Le.refl _ | assumption | apply Le.up2)))) : Le st _) i o ho, rfl⟩, rfl, rfl⟩
      intro r hr
      rcases List.mem_cons.1 hr with rfl | hr
      · rfl
      · rcases List.mem_cons.1 hr with rfl | hr
        · rfl
        · cases hr
    · have e : litE v = .mk 4 1 zV ⟨#[]⟩ [litX ⟨1, -v.n, ⟨#[]⟩⟩] := by unfold litE; rw [if_neg h0, if_neg h1]
      rw [e]
      refine Is.of TP Try.func124 rfl rfl (Nat.le_of_ble_eq_true rfl) fun st => Pw.of TP [] ?_
      conv => whnf
      intro id hid
      conv => whnf
      have hw : IntKind.i64.wrap (0 - v.n) = -v.n := by rw [Int.zero_sub]; exact wid (by unfold in64 at *; omega)
      repeat' (first | (refine ⟨fun h => ?_, fun h => ?_⟩ <;> conv => whnf) | (apply Exists.intro; apply And.intro; (first | ((with_reducible (repeat (refine Eq.trans (upd_ne _ ?_) ?_; (first | assumption | (apply Ne.symm; assumption))))); first | exact upd_same _ _ _ | assumption) | ((repeat (refine Eq.trans (upd_ne _ ?_) ?_; (first | assumption | (apply Ne.symm; assumption)))); first | exact upd_same _ _ _ | assumption)); refine ⟨Nat.le_of_ble_eq_true rfl, ?_⟩; conv => whnf) | (apply Exists.intro; apply And.intro; (first | ((with_reducible (repeat (refine Eq.trans (upd_ne _ ?_) ?_; (first | assumption | (apply Ne.symm; assumption))))); first | exact upd_same _ _ _ | assumption) | ((repeat (refine Eq.trans (upd_ne _ ?_) ?_; (first | assumption | (apply Ne.symm; assumption)))); first | exact upd_same _ _ _ | assumption)); conv => whnf))
      all_goals first | (exfalso; omega) | skip
      rw [← hw]
      exact ⟨fun _ => false, st, .g (eE (.mk 4 1 zV ⟨#[]⟩ [litX ⟨1, IntKind.i64.wrap (0 - v.n), ⟨#[]⟩⟩])), FV.gl (fzU ⟨1, IntKind.i64.wrap (0 - v.n), ⟨#[]⟩⟩), fun i o ho => ⟨(by (first | (with_reducible (iterate 24 (try any_goals (first | exact Le.refl _ | assumption | apply Le.up2))); done) | (iterate 24 (try any_goals (first | exact Le.refl _ | assumption | apply Le.up2)))) : Le st _) i o ho, rfl⟩, rfl, rfl⟩
end Go.Proofs.Ytbmgenifdlgbmaa.D
namespace Go.Proofs.Ytbmgenifdlgbmaa.D
set_option linter.unusedVariables false
set_option linter.unusedSimpArgs false
open Go Go.Proofs.Ytbmgenifdlgbmaa.D.Pm
set_option maxRecDepth 4000
def pin (n : Nat) (e : Ex) : Bool := match e with | .mk k op _ _ _ => !decide (k = 3) || decide (1 ≤ op ∧ op ≤ n)
def pat (ps : List Val) (op : Int) : Val := ps.getD (op - 1).toNat zV
mutual
def filledE (ps : List Val) : Ex → Ex
  | .mk k op v nm kids => if k = 3 then litE (pat ps op) else .mk k op v nm (filledEs ps kids)
def filledEs (ps : List Val) : List Ex → List Ex
  | [] => []
  | e :: l => filledE ps e :: filledEs ps l
end
mutual
def filledOk (ps : List Val) : Ex → Bool
  | .mk k op v nm kids => if k = 3 then vright (pat ps op) else filledOks ps kids
def filledOks (ps : List Val) : List Ex → Bool
  | [] => true
  | e :: l => filledOk ps e && filledOks ps l
end
theorem filledEs_map {ps : List Val} : ∀ l, filledEs ps l = l.map (filledE ps)
  | [] => rfl
  | e :: l => by rw [filledEs, List.map_cons, filledEs_map l]
theorem filledOks_all {ps : List Val} : ∀ l, filledOks ps l = l.all (filledOk ps)
  | [] => rfl
  | e :: l => by rw [filledOks, List.all_cons, filledOks_all l]
theorem Grow.upbx {st0 st : Sto} {sz : Nat} {a : AC} {rows : List (List AC)} (hg : Grow st0 sz st a rows) {id : Nat} {cs : List AC} {o : Ob} (h : st id = some (.bx cs)) (h0 : st0 id = none) : Grow st0 sz (upd st id o) a rows := by
  refine ⟨hg.1.up2 h0, ?_⟩
  rcases hg.2 with ⟨h1, h2⟩ | ⟨i, h1, h2, h3⟩
  · exact .inl ⟨h1, h2⟩
  · have : i ≠ id := fun e => by subst e; rw [h] at h2; cases h2
    exact .inr ⟨i, h1, by rw [upd_ne _ this]; exact h2, h3⟩
theorem Kept.bx {a : AC} {st st' : Sto} (hk : Kept a st st') {st0 : Sto} {sz : Nat} {rows : List (List AC)} (hg : Grow st0 sz st a rows) {id : Nat} {cs : List AC} (h : st id = some (.bx cs)) : st' id = some (.bx cs) :=
  hk id _ h fun n e => by
    subst e
    rcases hg.2 with ⟨h1, _⟩ | ⟨i, h1, h2, _⟩
    · cases h1
    · cases h1; rw [h] at h2; cases h2
def zE : TI := ⟨.st [(0, 3), (1, 3), (2, 23), (5, 9), (6, 24)], 7, 88, [.int .i64 0, .int .i64 0, .int .i64 0, .int .i64 0, .string ⟨#[]⟩, .string ⟨#[]⟩, .slice none 0 0]⟩
def exC (k op : Int) (v : Val) (nm : ByteArray) (a : AC) : List AC := [.v (.int .i64 k), .v (.int .i64 op), .v (.int .i64 v.k), .v (.int .i64 v.n), .v (.string v.s), .v (.string nm), a]
def zeroC : List AC := exC 0 0 zV ⟨#[]⟩ (.v (.slice none 0 0))
theorem filled_is {ps : List Val} (hp : ∀ v ∈ ps, okV v) (hl : ps.length ≤ Big) : ∀ e, okE e → nodes e ≤ Lim → allE (pin ps.length) e = true → Is Try.prog 93 [.g (eE e), .c (.sl 3 (ps.map eV))] (.t [.g (eE (filledE ps e)), vB (filledOk ps e)]) := by
  refine Ex.ind fun k op v nm kids ih ok hn ha => ?_
  rw [nodes] at hn
  unfold Lim at hn
  rw [allE, Bool.and_eq_true, allEs_all, List.all_eq_true] at ha
  obtain ⟨ha1, ha2⟩ := ha
  refine Is.of TP Try.func93 rfl rfl (Nat.le_of_ble_eq_true rfl) fun st => Pw.of TP [1000006] ?_
  conv => whnf
  intro id4 h4
  conv => whnf
  refine ⟨fun h => ?_, fun h => ?_⟩ <;> conv => whnf
  · refine Pw.drwC TP mixed [14, 15] (by kernel_rfl) ?_; conv => whnf
    have hop : 1 ≤ op ∧ op ≤ ps.length := by simpa [pin, h] using ha1
    have hw : IntKind.i64.wrap (op - 1) = op - 1 := wid (by unfold in64; unfold Big at hl; omega)
    obtain ⟨m, hm⟩ : ∃ m : Nat, op - 1 = m := ⟨(op - 1).toNat, by omega⟩
    have hlt : m < ps.length := by omega
    have hpat : pat ps op = ps[m] := by unfold pat; rw [hm, Int.toNat_natCast, List.getD_eq_getElem?_getD, List.getElem?_eq_getElem hlt]; rfl
    have hv := hp _ (List.getElem_mem hlt)
    rw [hw, hm]
    refine ixm hlt ?_
    conv => whnf
    have hlit := lit_is _ hv.1
    have e1 : filledE ps (.mk k op v nm kids) = litE ps[m] := by rw [filledE, if_pos h, hpat]
    have e2 : filledOk ps (.mk k op v nm kids) = vright ps[m] := by rw [filledOk, if_pos h, hpat]
    rw [e1, e2]
    generalize litE ps[m] = le at hlit
    cases le
    refine Is.draw hlit ?_
    conv => whnf
    rw [hw, hm]
    refine ixm hlt ?_
    conv => whnf
    refine Is.drawB (vright_is _ hv.2) fun b hb => ?_
    conv => whnf
    (apply Exists.intro; apply And.intro; (first | ((with_reducible (repeat (refine Eq.trans (upd_ne _ ?_) ?_; (first | assumption | (apply Ne.symm; assumption))))); first | exact upd_same _ _ _ | assumption) | ((repeat (refine Eq.trans (upd_ne _ ?_) ?_; (first | assumption | (apply Ne.symm; assumption)))); first | exact upd_same _ _ _ | assumption)); refine ⟨Nat.le_of_ble_eq_true rfl, ?_⟩; conv => whnf)
    (apply Exists.intro; apply And.intro; (first | ((with_reducible (repeat (refine Eq.trans (upd_ne _ ?_) ?_; (first | assumption | (apply Ne.symm; assumption))))); first | exact upd_same _ _ _ | assumption) | ((repeat (refine Eq.trans (upd_ne _ ?_) ?_; (first | assumption | (apply Ne.symm; assumption)))); first | exact upd_same _ _ _ | assumption)); conv => whnf)
    rw [hb]
    exact Fin.old rfl (by (first | (with_reducible (iterate 24 (try any_goals (first | exact Le.refl _ | assumption | apply Le.up2))); done) | (iterate 24 (try any_goals (first | exact Le.refl _ | assumption | apply Le.up2)))))
  · intro id6 h6
    conv => whnf
    have n46 : id4 ≠ id6 := fresh_ne h6 (upd_same _ _ _)
    have h6' : st id6 = none := Le.none (by (first | (with_reducible (iterate 24 (try any_goals (first | exact Le.refl _ | assumption | apply Le.up2))); done) | (iterate 24 (try any_goals (first | exact Le.refl _ | assumption | apply Le.up2))))) h6
    clear h6
    (apply Exists.intro; apply And.intro; (first | ((with_reducible (repeat (refine Eq.trans (upd_ne _ ?_) ?_; (first | assumption | (apply Ne.symm; assumption))))); first | exact upd_same _ _ _ | assumption) | ((repeat (refine Eq.trans (upd_ne _ ?_) ?_; (first | assumption | (apply Ne.symm; assumption)))); first | exact upd_same _ _ _ | assumption)); refine ⟨Nat.le_of_ble_eq_true rfl, ?_⟩; conv => whnf)
    (apply Exists.intro; apply And.intro; (first | ((with_reducible (repeat (refine Eq.trans (upd_ne _ ?_) ?_; (first | assumption | (apply Ne.symm; assumption))))); first | exact upd_same _ _ _ | assumption) | ((repeat (refine Eq.trans (upd_ne _ ?_) ?_; (first | assumption | (apply Ne.symm; assumption)))); first | exact upd_same _ _ _ | assumption)); refine ⟨Nat.le_of_ble_eq_true rfl, ?_⟩; conv => whnf)
    have e1 : filledE ps (.mk k op v nm kids) = .mk k op v nm (filledEs ps kids) := by rw [filledE, if_neg h]
    have e2 : filledOk ps (.mk k op v nm kids) = filledOks ps kids := by rw [filledOk, if_neg h]
    rw [e1, e2]
    clear e1 e2
    refine Pw.gen fun S hS => ?_
    have a4 : S id4 = some (.bx zeroC) := by rw [hS]; (first | ((with_reducible (repeat (refine Eq.trans (upd_ne _ ?_) ?_; (first | assumption | (apply Ne.symm; assumption))))); first | exact upd_same _ _ _ | assumption) | ((repeat (refine Eq.trans (upd_ne _ ?_) ?_; (first | assumption | (apply Ne.symm; assumption)))); first | exact upd_same _ _ _ | assumption))
    have a6 : S id6 = some (.bx (exC k op v nm (.v (.slice none 0 0)))) := by rw [hS]; (first | ((with_reducible (repeat (refine Eq.trans (upd_ne _ ?_) ?_; (first | assumption | (apply Ne.symm; assumption))))); first | exact upd_same _ _ _ | assumption) | ((repeat (refine Eq.trans (upd_ne _ ?_) ?_; (first | assumption | (apply Ne.symm; assumption)))); first | exact upd_same _ _ _ | assumption))
    have le : Le st S := by rw [hS]; (first | (with_reducible (iterate 24 (try any_goals (first | exact Le.refl _ | assumption | apply Le.up2))); done) | (iterate 24 (try any_goals (first | exact Le.refl _ | assumption | apply Le.up2))))
    clear hS
    refine Pw.rngS (τ := AC × Sto) 34 kids.length ok.2.2.1 [1, 2, 4, 6, 32, 33] (fun i _ => [(7, vB ((kids.take i).all (filledOk ps)))]) (fun _ y => y.2) (fun i y => Grow st 7 y.2 y.1 (eEs ((kids.take i).map (filledE ps))) ∧ y.2 id4 = some (.bx zeroC) ∧ y.2 id6 = some (.bx (exC k op v nm y.1))) (.v (.slice none 0 0), S) rfl ⟨rfl, trivial⟩ (.refl _) ⟨.nil le, a4, a6⟩ fun i y hi hx => Pw.of TP [] ?_
    clear a4 a6 le S
    obtain ⟨a, s⟩ := y
    obtain ⟨hg, a4, a6⟩ := hx
    simp only at hg a4 a6 ⊢
    conv => whnf
    refine ⟨fun h => ?_, fun h => ?_⟩ <;> conv => whnf
    · have hi' := ltE ‹_›
      refine ixE hi' ?_
      have hm := ih kids[i] (List.getElem_mem hi') (okEs_all ok.2.2.2 _ (List.getElem_mem hi')) (Nat.le_trans (nodes_mem (List.getElem_mem hi')) (by unfold Lim; omega)) (ha2 _ (List.getElem_mem hi'))
      have es : (kids.take (i + 1)).map (filledE ps) = (kids.take i).map (filledE ps) ++ [filledE ps kids[i]] := by rw [List.take_succ_eq_append_getElem hi', List.map_append]; rfl
      have eo : (kids.take (i + 1)).all (filledOk ps) = ((kids.take i).all (filledOk ps) && filledOk ps kids[i]) := by rw [List.take_succ_eq_append_getElem hi', List.all_append]; simp
      generalize kids[i] = e at hm es eo ⊢
      generalize filledE ps e = x at hm es
      generalize filledOk ps e = b at hm eo
      cases e
      conv => whnf
      refine hm.call ?_
      cases x
      conv => whnf
      (apply Exists.intro; apply And.intro; (first | ((with_reducible (repeat (refine Eq.trans (upd_ne _ ?_) ?_; (first | assumption | (apply Ne.symm; assumption))))); first | exact upd_same _ _ _ | assumption) | ((repeat (refine Eq.trans (upd_ne _ ?_) ?_; (first | assumption | (apply Ne.symm; assumption)))); first | exact upd_same _ _ _ | assumption)); conv => whnf)
      have e7 := eEs_len ((kids.take i).map (filledE ps))
      rw [List.length_map, List.length_take] at e7
      have hnk := parts_len (.mk k op v nm kids)
      have hlk : kids.length ≤ nodesL kids := by
        have : ∀ l : List Ex, l.length ≤ nodesL l := fun l => by
          induction l with
          | nil => exact Nat.le_refl _
          | cons e l ih => rw [nodesL, List.length_cons]; have : 1 ≤ nodes e := by cases e; rw [nodes]; omega
                           omega
        exact this kids
      refine Grow.app (z := zE) hg (by rw [e7]; unfold maxLen; simp; omega) (by rw [e7]; simp [zE]; omega) fun a' s' hg' hk' => ?_
      conv => whnf
      have a6' := Kept.bx hk' hg a6
      have a4' := Kept.bx hk' hg a4
      (apply Exists.intro; apply And.intro; (first | ((with_reducible (repeat (refine Eq.trans (upd_ne _ ?_) ?_; (first | assumption | (apply Ne.symm; assumption))))); first | exact upd_same _ _ _ | assumption) | ((repeat (refine Eq.trans (upd_ne _ ?_) ?_; (first | assumption | (apply Ne.symm; assumption)))); first | exact upd_same _ _ _ | assumption)); refine ⟨Nat.le_of_ble_eq_true rfl, ?_⟩; conv => whnf)
      cases hB : (kids.take i).all (filledOk ps) <;> rw [hB] at eo <;> cases b <;> conv => whnf
      all_goals exact ⟨hi', rfl, ⟨rfl, rfl, rfl, rfl, rfl, rfl, trivial⟩, (a', upd s' id6 (.bx (exC k op v nm a'))), ⟨by rw [eo]; rfl, trivial⟩, .refl _, by rw [es, eEs_app]; exact Grow.upbx hg' a6' h6', (upd_ne _ n46).trans a4', upd_same _ _ _⟩
    · obtain rfl := nltE ‹_› hi
      rw [List.take_length] at hg ⊢
      rw [← filledEs_map] at hg
      rw [← filledOks_all]
      repeat' (first | (apply Exists.intro; apply And.intro; (first | ((with_reducible (repeat (refine Eq.trans (upd_ne _ ?_) ?_; (first | assumption | (apply Ne.symm; assumption))))); first | exact upd_same _ _ _ | assumption) | ((repeat (refine Eq.trans (upd_ne _ ?_) ?_; (first | assumption | (apply Ne.symm; assumption)))); first | exact upd_same _ _ _ | assumption)); refine ⟨Nat.le_of_ble_eq_true rfl, ?_⟩; conv => whnf) | (apply Exists.intro; apply And.intro; (first | ((with_reducible (repeat (refine Eq.trans (upd_ne _ ?_) ?_; (first | assumption | (apply Ne.symm; assumption))))); first | exact upd_same _ _ _ | assumption) | ((repeat (refine Eq.trans (upd_ne _ ?_) ?_; (first | assumption | (apply Ne.symm; assumption)))); first | exact upd_same _ _ _ | assumption)); conv => whnf))
      obtain ⟨D, q1, q2⟩ := (Grow.upbx hg a4 h4 (o := .bx (exC k op v nm a))).fv (eEs_row _)
      refine ⟨D, st, .t [.g (eE (.mk k op v nm (filledEs ps kids))), vB (filledOks ps kids)], .t _ _ rfl (fun j c c' w1 w2 => ?_), fun i o ho => ⟨(hg.1.up2 h4) i o ho, ?_⟩, rfl, rfl⟩
      · match j, w1, w2 with
        | 0, w1, w2 => cases w1; cases w2; exact FV.gl (.cons (.refl _) (.cons (.refl _) (.cons (.refl _) (.cons (.refl _) (.cons (.refl _) (.cons (.refl _) (.cons (q1 D fun _ h => h) .nil)))))))
        | 1, w1, w2 => cases w1; cases w2; exact .refl _
        | j + 2, w1, w2 => simp at w2
      · cases hd : D i with
        | false => rfl
        | true => rw [q2 i hd] at ho; cases ho
end Go.Proofs.Ytbmgenifdlgbmaa.D
namespace Go.Proofs.Ytbmgenifdlgbmaa.D
set_option linter.unusedVariables false
set_option linter.unusedSimpArgs false
open Go Go.Proofs.Ytbmgenifdlgbmaa.D.Pm
set_option maxRecDepth 4000
theorem rfilled_is {ps : List Val} (hp : ∀ v ∈ ps, okV v) (hl : ps.length ≤ Big) : ∀ e, okE e → nodes e ≤ Lim → allE (pin ps.length) e = true → Is Try.prog 96 [.g (eE e), .c (.sl 3 (ps.map eV))] (.g (eE (filledE ps e))) := by
  refine Ex.ind fun k op v nm kids ih ok hn ha => ?_
  rw [nodes] at hn
  unfold Lim at hn
  rw [allE, Bool.and_eq_true, allEs_all, List.all_eq_true] at ha
  obtain ⟨ha1, ha2⟩ := ha
  refine Is.of TP Try.func96 rfl rfl (Nat.le_of_ble_eq_true rfl) fun st => Pw.of TP [1000005] ?_
  conv => whnf
  intro id4 h4
  conv => whnf
  refine ⟨fun h => ?_, fun h => ?_⟩ <;> conv => whnf
  · have hop : 1 ≤ op ∧ op ≤ ps.length := by simpa [pin, h] using ha1
    have hw : IntKind.i64.wrap (op - 1) = op - 1 := wid (by unfold in64; unfold Big at hl; omega)
    obtain ⟨m, hm⟩ : ∃ m : Nat, op - 1 = m := ⟨(op - 1).toNat, by omega⟩
    have hlt : m < ps.length := by omega
    have hpat : pat ps op = ps[m] := by unfold pat; rw [hm, Int.toNat_natCast, List.getD_eq_getElem?_getD, List.getElem?_eq_getElem hlt]; rfl
    have hv := hp _ (List.getElem_mem hlt)
    rw [hw, hm]
    refine ixm hlt ?_
    conv => whnf
    have hlit := rlit_is _ hv.1
    have e1 : filledE ps (.mk k op v nm kids) = litE ps[m] := by rw [filledE, if_pos h, hpat]
    rw [e1]
    generalize litE ps[m] = le at hlit
    cases le
    refine hlit.call ?_
    conv => whnf
    (apply Exists.intro; apply And.intro; (first | ((with_reducible (repeat (refine Eq.trans (upd_ne _ ?_) ?_; (first | assumption | (apply Ne.symm; assumption))))); first | exact upd_same _ _ _ | assumption) | ((repeat (refine Eq.trans (upd_ne _ ?_) ?_; (first | assumption | (apply Ne.symm; assumption)))); first | exact upd_same _ _ _ | assumption)); refine ⟨Nat.le_of_ble_eq_true rfl, ?_⟩; conv => whnf)
    (apply Exists.intro; apply And.intro; (first | ((with_reducible (repeat (refine Eq.trans (upd_ne _ ?_) ?_; (first | assumption | (apply Ne.symm; assumption))))); first | exact upd_same _ _ _ | assumption) | ((repeat (refine Eq.trans (upd_ne _ ?_) ?_; (first | assumption | (apply Ne.symm; assumption)))); first | exact upd_same _ _ _ | assumption)); conv => whnf)
    exact Fin.old rfl (by (first | (with_reducible (iterate 24 (try any_goals (first | exact Le.refl _ | assumption | apply Le.up2))); done) | (iterate 24 (try any_goals (first | exact Le.refl _ | assumption | apply Le.up2)))))
  · intro id6 h6
    conv => whnf
    have n46 : id4 ≠ id6 := fresh_ne h6 (upd_same _ _ _)
    have h6' : st id6 = none := Le.none (by (first | (with_reducible (iterate 24 (try any_goals (first | exact Le.refl _ | assumption | apply Le.up2))); done) | (iterate 24 (try any_goals (first | exact Le.refl _ | assumption | apply Le.up2))))) h6
    clear h6
    (apply Exists.intro; apply And.intro; (first | ((with_reducible (repeat (refine Eq.trans (upd_ne _ ?_) ?_; (first | assumption | (apply Ne.symm; assumption))))); first | exact upd_same _ _ _ | assumption) | ((repeat (refine Eq.trans (upd_ne _ ?_) ?_; (first | assumption | (apply Ne.symm; assumption)))); first | exact upd_same _ _ _ | assumption)); refine ⟨Nat.le_of_ble_eq_true rfl, ?_⟩; conv => whnf)
    have e1 : filledE ps (.mk k op v nm kids) = .mk k op v nm (filledEs ps kids) := by rw [filledE, if_neg h]
    rw [e1]
    clear e1
    refine Pw.gen fun S hS => ?_
    have a4 : S id4 = some (.bx zeroC) := by rw [hS]; (first | ((with_reducible (repeat (refine Eq.trans (upd_ne _ ?_) ?_; (first | assumption | (apply Ne.symm; assumption))))); first | exact upd_same _ _ _ | assumption) | ((repeat (refine Eq.trans (upd_ne _ ?_) ?_; (first | assumption | (apply Ne.symm; assumption)))); first | exact upd_same _ _ _ | assumption))
    have a6 : S id6 = some (.bx (exC k op v nm (.v (.slice none 0 0)))) := by rw [hS]; (first | ((with_reducible (repeat (refine Eq.trans (upd_ne _ ?_) ?_; (first | assumption | (apply Ne.symm; assumption))))); first | exact upd_same _ _ _ | assumption) | ((repeat (refine Eq.trans (upd_ne _ ?_) ?_; (first | assumption | (apply Ne.symm; assumption)))); first | exact upd_same _ _ _ | assumption))
    have le : Le st S := by rw [hS]; (first | (with_reducible (iterate 24 (try any_goals (first | exact Le.refl _ | assumption | apply Le.up2))); done) | (iterate 24 (try any_goals (first | exact Le.refl _ | assumption | apply Le.up2))))
    clear hS
    refine Pw.rngS (τ := AC × Sto) 6 kids.length ok.2.2.1 [1, 2, 4, 5] (fun i _ => []) (fun _ y => y.2) (fun i y => Grow st 7 y.2 y.1 (eEs ((kids.take i).map (filledE ps))) ∧ y.2 id4 = some (.bx zeroC) ∧ y.2 id6 = some (.bx (exC k op v nm y.1))) (.v (.slice none 0 0), S) rfl trivial (.refl _) ⟨.nil le, a4, a6⟩ fun i y hi hx => Pw.of TP [] ?_
    clear a4 a6 le S
    obtain ⟨a, s⟩ := y
    obtain ⟨hg, a4, a6⟩ := hx
    simp only at hg a4 a6 ⊢
    conv => whnf
    refine ⟨fun h => ?_, fun h => ?_⟩ <;> conv => whnf
    · have hi' := ltE ‹_›
      have hm := ih kids[i] (List.getElem_mem hi') (okEs_all ok.2.2.2 _ (List.getElem_mem hi')) (Nat.le_trans (nodes_mem (List.getElem_mem hi')) (by unfold Lim; omega)) (ha2 _ (List.getElem_mem hi'))
      have es : (kids.take (i + 1)).map (filledE ps) = (kids.take i).map (filledE ps) ++ [filledE ps kids[i]] := by rw [List.take_succ_eq_append_getElem hi', List.map_append]; rfl
      have key : ∀ F : List AC → Prop, F (eE kids[i]) → 0 ≤ (i : Int) ∧ (i : Int) < ((eEs kids).length : Nat) ∧ ∃ r, (eEs kids)[(i : Int).toNat]? = some r ∧ F r := fun F hF => ixE hi' hF
      generalize kids[i] = e at hm es key
      generalize filledE ps e = x at hm es
      refine Pw.drwQ TP mixed [9, 10, 11, 12] 10 [1] (by kernel_rfl) ?_; conv => whnf
      refine ⟨_, a6, ?_⟩
      conv => whnf
      refine key _ ?_
      cases e
      conv => whnf
      cases x
      refine Is.draw hm ?_
      conv => whnf
      refine ⟨.refl _, ?_⟩
      conv => whnf
      intro id8 h8
      conv => whnf
      refine ⟨.upd h8, ?_⟩
      conv => whnf
      refine ⟨_, upd_same _ _ _, Nat.le_of_ble_eq_true rfl, ?_⟩
      have e7 := eEs_len ((kids.take i).map (filledE ps))
      rw [List.length_map, List.length_take] at e7
      have hlk : kids.length ≤ nodesL kids := by
        have : ∀ l : List Ex, l.length ≤ nodesL l := fun l => by
          induction l with
          | nil => exact Nat.le_refl _
          | cons e l ih => rw [nodesL, List.length_cons]; have : 1 ≤ nodes e := by cases e; rw [nodes]; omega
                           omega
        exact this kids
      have h8' : st id8 = none := hg.1.none h8
      have n48 : id4 ≠ id8 := fresh_ne h8 a4
      have n68 : id6 ≠ id8 := fresh_ne h8 a6
      refine Grow.app (z := zE) (hg.up h8) (by rw [e7]; unfold maxLen; simp; omega) (by rw [e7]; simp [zE]; omega) fun a' s' hg' hk' => ?_
      conv => whnf
      have a6' := Kept.bx hk' (hg.up h8) ((upd_ne _ n68).trans a6)
      have a4' := Kept.bx hk' (hg.up h8) ((upd_ne _ n48).trans a4)
      (apply Exists.intro; apply And.intro; (first | ((with_reducible (repeat (refine Eq.trans (upd_ne _ ?_) ?_; (first | assumption | (apply Ne.symm; assumption))))); first | exact upd_same _ _ _ | assumption) | ((repeat (refine Eq.trans (upd_ne _ ?_) ?_; (first | assumption | (apply Ne.symm; assumption)))); first | exact upd_same _ _ _ | assumption)); refine ⟨Nat.le_of_ble_eq_true rfl, ?_⟩; conv => whnf)
      exact ⟨hi', rfl, ⟨rfl, rfl, rfl, rfl, trivial⟩, (a', upd s' id6 (.bx (exC k op v nm a'))), trivial, .refl _, by rw [es, eEs_app]; exact Grow.upbx hg' a6' h6', (upd_ne _ n46).trans a4', upd_same _ _ _⟩
    · obtain rfl := nltE ‹_› hi
      rw [List.take_length] at hg
      rw [← filledEs_map] at hg
      repeat' (first | (apply Exists.intro; apply And.intro; (first | ((with_reducible (repeat (refine Eq.trans (upd_ne _ ?_) ?_; (first | assumption | (apply Ne.symm; assumption))))); first | exact upd_same _ _ _ | assumption) | ((repeat (refine Eq.trans (upd_ne _ ?_) ?_; (first | assumption | (apply Ne.symm; assumption)))); first | exact upd_same _ _ _ | assumption)); refine ⟨Nat.le_of_ble_eq_true rfl, ?_⟩; conv => whnf) | (apply Exists.intro; apply And.intro; (first | ((with_reducible (repeat (refine Eq.trans (upd_ne _ ?_) ?_; (first | assumption | (apply Ne.symm; assumption))))); first | exact upd_same _ _ _ | assumption) | ((repeat (refine Eq.trans (upd_ne _ ?_) ?_; (first | assumption | (apply Ne.symm; assumption)))); first | exact upd_same _ _ _ | assumption)); conv => whnf))
      obtain ⟨D, q1, q2⟩ := (Grow.upbx hg a4 h4 (o := .bx (exC k op v nm a))).fv (eEs_row _)
      refine ⟨D, st, .g (eE (.mk k op v nm (filledEs ps kids))), FV.gl (.cons (.refl _) (.cons (.refl _) (.cons (.refl _) (.cons (.refl _) (.cons (.refl _) (.cons (.refl _) (.cons (q1 D fun _ h => h) .nil))))))), fun i o ho => ⟨(hg.1.up2 h4) i o ho, ?_⟩, rfl, rfl⟩
      cases hd : D i with
      | false => rfl
      | true => rw [q2 i hd] at ho; cases ho
end Go.Proofs.Ytbmgenifdlgbmaa.D
namespace Go.Proofs.Ytbmgenifdlgbmaa.D
set_option linter.unusedVariables false
set_option linter.unusedSimpArgs false
open Go Go.Proofs.Ytbmgenifdlgbmaa.D.Pm
set_option maxRecDepth 4000
theorem nodes_lit (v : Val) : nodes (litE v) ≤ 4 := by
  unfold litE litX
  repeat' split
  all_goals simp [nodes, nodesL]
theorem big0 : (⟨#[]⟩ : ByteArray).size < Big := by show (0 : Nat) < 4611686018427387903; omega
theorem okX {v : Val} (h : v.s.size < Big) : okE (litX v) := ⟨h, big0, Nat.zero_le _, trivial⟩
theorem okE_lit {v : Val} (h : v.s.size < Big) : okE (litE v) := by
  unfold litE
  have h2 : ([0, 1] : List Nat).length ≤ Big := by show 2 ≤ 4611686018427387903; omega
  have h1 : ([0] : List Nat).length ≤ Big := by show 1 ≤ 4611686018427387903; omega
  split
  · exact okX h
  · split
    · exact ⟨big0, big0, h2, ⟨big0, big0, h1, okX big0, trivial⟩, okX big0, trivial⟩
    · exact ⟨big0, big0, h1, okX big0, trivial⟩
theorem pat_of {ps : List Val} {p : Val → Prop} (h : ∀ v ∈ ps, p v) (h0 : p zV) (op : Int) : p (pat ps op) := by
  unfold pat
  rw [List.getD_eq_getElem?_getD]
  cases hq : ps[(op - 1).toNat]? with
  | none => exact h0
  | some v => exact h v (List.mem_of_getElem? hq)
theorem nodesL_map {f : Ex → Ex} {m : Nat} : ∀ l : List Ex, (∀ e ∈ l, nodes (f e) ≤ m * nodes e) → nodesL (l.map f) ≤ m * nodesL l
  | [], h => Nat.zero_le _
  | e :: l, h => by
    rw [List.map_cons, nodesL, nodesL, Nat.mul_add]
    have := h e (List.mem_cons_self ..)
    have := nodesL_map l fun x hx => h x (List.mem_cons_of_mem _ hx)
    omega
theorem nodes_filled (ps : List Val) : ∀ e, nodes (filledE ps e) ≤ 4 * nodes e := by
  refine Ex.ind fun k op v nm kids ih => ?_
  unfold filledE
  split
  · have := nodes_lit (pat ps op)
    rw [nodes]; omega
  · rw [nodes, nodes, filledEs_map]
    have := nodesL_map kids ih
    omega
theorem okEs_of : ∀ {l : List Ex}, (∀ e ∈ l, okE e) → okEs l
  | [], _ => trivial
  | e :: l, h => ⟨h e (List.mem_cons_self ..), okEs_of fun x hx => h x (List.mem_cons_of_mem _ hx)⟩
theorem okE_filled {ps : List Val} (hp : ∀ v ∈ ps, v.s.size < Big) : ∀ e, okE e → okE (filledE ps e) := by
  refine Ex.ind fun k op v nm kids ih ok => ?_
  unfold filledE
  split
  · exact okE_lit (pat_of (p := fun v => v.s.size < Big) hp (by decide) op)
  · refine ⟨ok.1, ok.2.1, by rw [filledEs_map, List.length_map]; exact ok.2.2.1, ?_⟩
    rw [filledEs_map]
    refine okEs_of fun e he => ?_
    obtain ⟨x, hx, rfl⟩ := List.mem_map.1 he
    exact ih x hx (okEs_all ok.2.2.2 x hx)
theorem allE_parts {p : Ex → Bool} : ∀ e, allE p e = (parts e).all p := by
  refine Ex.ind fun k op v nm kids ih => ?_
  rw [allE, parts, List.all_cons]
  congr 1
  rw [allEs_all]
  clear v
  induction kids with
  | nil => rfl
  | cons a l ih2 =>
    rw [List.all_cons, partsL, List.all_append, ih a (List.mem_cons_self ..), ih2 fun e he => ih e (List.mem_cons_of_mem _ he)]
theorem maxPar_le (l : List Ex) (x : Int) : x ≤ l.foldl maxPar x ∧ ∀ e ∈ l, match e with | .mk k op _ _ _ => k = 3 → op ≤ l.foldl maxPar x := by
  induction l generalizing x with
  | nil => exact ⟨Int.le_refl _, fun e h => by cases h⟩
  | cons a l ih =>
    obtain ⟨h1, h2⟩ := ih (maxPar x a)
    rw [List.foldl_cons]
    have hx : x ≤ maxPar x a := by
      cases a; simp only [maxPar, kindE, opE]; repeat' split
      all_goals omega
    refine ⟨Int.le_trans hx h1, fun e he => ?_⟩
    rcases List.mem_cons.1 he with rfl | he
    · cases e
      intro hk
      refine Int.le_trans ?_ h1
      simp only [maxPar, kindE, opE]; repeat' split
      all_goals omega
    · exact h2 e he
theorem pin_of {n : Nat} {e : Ex} (hr : allE (rightE true) e = true) (hn : paramsE e ≤ n) : allE (pin n) e = true := by
  rw [allE_parts, List.all_eq_true] at hr ⊢
  unfold paramsE at hn
  rw [fold_parts] at hn
  intro x hx
  have h1 := (maxPar_le (parts e) 0).2 x hx
  have h2 := hr x hx
  cases x
  rename_i k op v nm kids
  unfold pin
  dsimp only
  by_cases hk : k = 3
  · subst hk
    have h3 := h1 rfl
    have h4 : 1 ≤ op := by simp [rightE] at h2; omega
    simp; omega
  · simp [hk]
end Go.Proofs.Ytbmgenifdlgbmaa.D
namespace Go.Proofs.Ytbmgenifdlgbmaa.D
set_option linter.unusedVariables false
set_option linter.unusedSimpArgs false
open Go Go.Proofs.Ytbmgenifdlgbmaa.D.Pm
set_option maxRecDepth 4000
def zEx : Ex := .mk 0 0 zV ⟨#[]⟩ []
def fR (p : Ex × Int) : AV := .t [.g (eE p.1), vI .i64 p.2]
def fillTop (ps : List Val) (e : Ex) : Ex × Int :=
  if checkE true e ≠ 0 then (zEx, (checkE true e : Nat)) else if (ps.length : Int) < paramsE e then (zEx, 37) else if filledOk ps e = false then (zEx, 2)
  else if 8 < height (filledE ps e) then (zEx, 17) else (filledE ps e, 0)
theorem Fin.zX {st0 st : Sto} {f : Int} {p : Ex × Int} (e : p = (zEx, f)) (h : Le st0 st) : Fin (fun r s => r = fR p ∧ s = st0) (.t [.g zeroC, vI .i64 f]) st := by
  subst e
  refine ⟨fun _ => false, st0, fR (zEx, f), .t _ _ rfl (fun j c c' w1 w2 => ?_), fun i o ho => ⟨h i o ho, rfl⟩, rfl, rfl⟩
  match j, w1, w2 with
  | 0, w1, w2 => cases w1; cases w2; exact FV.gl (.cons (.refl _) (.cons (.refl _) (.cons (.refl _) (.cons (.refl _) (.cons (.refl _) (.cons (.refl _) (.cons (.nil 7) .nil)))))))
  | 1, w1, w2 => cases w1; cases w2; exact .refl _
  | j + 2, w1, w2 => simp at w2
theorem check0 {e : Ex} (h : checkE true e = 0) : allE (rightE true) e = true := by
  unfold checkE at h
  split at h
  · cases h
  · split at h
    · assumption
    · cases h
theorem Fill_is {ps : List Val} (hp : ∀ v ∈ ps, okV v ∧ v.s.size < Big) (hl : ps.length ≤ Big) (e : Ex) (ok : okE e) (hn : nodes e ≤ 1000) : Is Try.prog 44 [.g (eE e), .c (.sl 3 (ps.map eV))] (fR (fillTop ps e)) := by
  have c1 := check_is e ok true
  have c2 := params_is e ok
  have hnx := nodes_filled ps e
  have okx := okE_filled (fun v hv => (hp v hv).2) e ok
  have c4 := xheight_is _ okx (by unfold Lim; omega)
  have c3 : checkE true e = 0 → paramsE e ≤ (ps.length : Nat) → Is Try.prog 93 [.g (eE e), .c (.sl 3 (ps.map eV))] (.t [.g (eE (filledE ps e)), vB (filledOk ps e)]) := fun h1 h2 => filled_is (fun v hv => (hp v hv).1) hl e ok (by unfold Lim; omega) (pin_of (check0 h1) h2)
  unfold fillTop
  clear hnx okx ok hn
  generalize checkE true e = c at c1 c3
  generalize paramsE e = n at c2 c3
  generalize filledE ps e = x at c3 c4
  generalize filledOk ps e = b at c3
  generalize height x = m at c4
  cases e
  refine Is.of TP Try.func44 rfl rfl (Nat.le_of_ble_eq_true rfl) fun st => Pw.of TP [] ?_
  conv => whnf
  intro id hid
  conv => whnf
  refine Is.callI c1 fun c' hc' => ?_
  subst hc'
  conv => whnf
  refine ⟨fun h => ?_, fun h => ?_⟩ <;> conv => whnf
  · repeat' (first | (apply Exists.intro; apply And.intro; (first | ((with_reducible (repeat (refine Eq.trans (upd_ne _ ?_) ?_; (first | assumption | (apply Ne.symm; assumption))))); first | exact upd_same _ _ _ | assumption) | ((repeat (refine Eq.trans (upd_ne _ ?_) ?_; (first | assumption | (apply Ne.symm; assumption)))); first | exact upd_same _ _ _ | assumption)); refine ⟨Nat.le_of_ble_eq_true rfl, ?_⟩; conv => whnf) | (apply Exists.intro; apply And.intro; (first | ((with_reducible (repeat (refine Eq.trans (upd_ne _ ?_) ?_; (first | assumption | (apply Ne.symm; assumption))))); first | exact upd_same _ _ _ | assumption) | ((repeat (refine Eq.trans (upd_ne _ ?_) ?_; (first | assumption | (apply Ne.symm; assumption)))); first | exact upd_same _ _ _ | assumption)); conv => whnf))
    exact Fin.zX (if_pos (by omega)) (by (first | (with_reducible (iterate 24 (try any_goals (first | exact Le.refl _ | assumption | apply Le.up2))); done) | (iterate 24 (try any_goals (first | exact Le.refl _ | assumption | apply Le.up2)))))
  have hc : c = 0 := by omega
  rw [if_neg (by omega)]
  refine Is.callI c2 fun n' hn' => ?_
  subst hn'
  conv => whnf
  refine ⟨fun h => ?_, fun h => ?_⟩ <;> conv => whnf
  · repeat' (first | (apply Exists.intro; apply And.intro; (first | ((with_reducible (repeat (refine Eq.trans (upd_ne _ ?_) ?_; (first | assumption | (apply Ne.symm; assumption))))); first | exact upd_same _ _ _ | assumption) | ((repeat (refine Eq.trans (upd_ne _ ?_) ?_; (first | assumption | (apply Ne.symm; assumption)))); first | exact upd_same _ _ _ | assumption)); refine ⟨Nat.le_of_ble_eq_true rfl, ?_⟩; conv => whnf) | (apply Exists.intro; apply And.intro; (first | ((with_reducible (repeat (refine Eq.trans (upd_ne _ ?_) ?_; (first | assumption | (apply Ne.symm; assumption))))); first | exact upd_same _ _ _ | assumption) | ((repeat (refine Eq.trans (upd_ne _ ?_) ?_; (first | assumption | (apply Ne.symm; assumption)))); first | exact upd_same _ _ _ | assumption)); conv => whnf))
    exact Fin.zX (if_pos (by rw [List.length_map] at h; exact h)) (by (first | (with_reducible (iterate 24 (try any_goals (first | exact Le.refl _ | assumption | apply Le.up2))); done) | (iterate 24 (try any_goals (first | exact Le.refl _ | assumption | apply Le.up2)))))
  rw [List.length_map] at h
  rw [if_neg h]
  cases x
  refine Is.call (c3 hc (by omega)) ?_
  cases b <;> conv => whnf
  · repeat' (first | (apply Exists.intro; apply And.intro; (first | ((with_reducible (repeat (refine Eq.trans (upd_ne _ ?_) ?_; (first | assumption | (apply Ne.symm; assumption))))); first | exact upd_same _ _ _ | assumption) | ((repeat (refine Eq.trans (upd_ne _ ?_) ?_; (first | assumption | (apply Ne.symm; assumption)))); first | exact upd_same _ _ _ | assumption)); refine ⟨Nat.le_of_ble_eq_true rfl, ?_⟩; conv => whnf) | (apply Exists.intro; apply And.intro; (first | ((with_reducible (repeat (refine Eq.trans (upd_ne _ ?_) ?_; (first | assumption | (apply Ne.symm; assumption))))); first | exact upd_same _ _ _ | assumption) | ((repeat (refine Eq.trans (upd_ne _ ?_) ?_; (first | assumption | (apply Ne.symm; assumption)))); first | exact upd_same _ _ _ | assumption)); conv => whnf))
    exact Fin.zX (if_pos rfl) (by (first | (with_reducible (iterate 24 (try any_goals (first | exact Le.refl _ | assumption | apply Le.up2))); done) | (iterate 24 (try any_goals (first | exact Le.refl _ | assumption | apply Le.up2)))))
  rw [if_neg (by decide)]
  refine Is.callI c4 fun m' hm' => ?_
  subst hm'
  conv => whnf
  refine ⟨fun h => ?_, fun h => ?_⟩ <;> conv => whnf
  · repeat' (first | (apply Exists.intro; apply And.intro; (first | ((with_reducible (repeat (refine Eq.trans (upd_ne _ ?_) ?_; (first | assumption | (apply Ne.symm; assumption))))); first | exact upd_same _ _ _ | assumption) | ((repeat (refine Eq.trans (upd_ne _ ?_) ?_; (first | assumption | (apply Ne.symm; assumption)))); first | exact upd_same _ _ _ | assumption)); refine ⟨Nat.le_of_ble_eq_true rfl, ?_⟩; conv => whnf) | (apply Exists.intro; apply And.intro; (first | ((with_reducible (repeat (refine Eq.trans (upd_ne _ ?_) ?_; (first | assumption | (apply Ne.symm; assumption))))); first | exact upd_same _ _ _ | assumption) | ((repeat (refine Eq.trans (upd_ne _ ?_) ?_; (first | assumption | (apply Ne.symm; assumption)))); first | exact upd_same _ _ _ | assumption)); conv => whnf))
    exact Fin.zX (if_pos (by omega)) (by (first | (with_reducible (iterate 24 (try any_goals (first | exact Le.refl _ | assumption | apply Le.up2))); done) | (iterate 24 (try any_goals (first | exact Le.refl _ | assumption | apply Le.up2)))))
  · repeat' (first | (apply Exists.intro; apply And.intro; (first | ((with_reducible (repeat (refine Eq.trans (upd_ne _ ?_) ?_; (first | assumption | (apply Ne.symm; assumption))))); first | exact upd_same _ _ _ | assumption) | ((repeat (refine Eq.trans (upd_ne _ ?_) ?_; (first | assumption | (apply Ne.symm; assumption)))); first | exact upd_same _ _ _ | assumption)); refine ⟨Nat.le_of_ble_eq_true rfl, ?_⟩; conv => whnf) | (apply Exists.intro; apply And.intro; (first | ((with_reducible (repeat (refine Eq.trans (upd_ne _ ?_) ?_; (first | assumption | (apply Ne.symm; assumption))))); first | exact upd_same _ _ _ | assumption) | ((repeat (refine Eq.trans (upd_ne _ ?_) ?_; (first | assumption | (apply Ne.symm; assumption)))); first | exact upd_same _ _ _ | assumption)); conv => whnf))
    rw [if_neg (by omega)]
    exact Fin.old rfl (by (first | (with_reducible (iterate 24 (try any_goals (first | exact Le.refl _ | assumption | apply Le.up2))); done) | (iterate 24 (try any_goals (first | exact Le.refl _ | assumption | apply Le.up2)))))
def parOk (ps : List Val) (e : Ex) : Bool := match e with | .mk k op _ _ _ => !decide (k = 3) || vright (pat ps op)
theorem filledOk_parts {ps : List Val} : ∀ e, allE (rightE true) e = true → filledOk ps e = (parts e).all (parOk ps) := by
  refine Ex.ind fun k op v nm kids ih hr => ?_
  rw [allE, Bool.and_eq_true, allEs_all, List.all_eq_true] at hr
  rw [parts, List.all_cons]
  unfold filledOk parOk
  dsimp only
  by_cases hk : k = 3
  · subst hk
    have hl : kids = [] := by
      have := hr.1
      simp [rightE] at this
      exact this.1
    subst hl
    simp [partsL]
  · rw [if_neg hk, filledOks_all]
    simp only [hk, decide_false, Bool.not_false, Bool.true_or, Bool.true_and]
    have h2 := hr.2
    clear hr
    induction kids with
    | nil => rfl
    | cons a l ih2 =>
      rw [List.all_cons, partsL, List.all_append, ih a (List.mem_cons_self ..) (h2 a (List.mem_cons_self ..)), ih2 (fun e he => ih e (List.mem_cons_of_mem _ he)) (fun e he => h2 e (List.mem_cons_of_mem _ he))]
      rfl
theorem rFill_is {ps : List Val} (hp : ∀ v ∈ ps, okV v ∧ v.s.size < Big) (hl : ps.length ≤ Big) (e : Ex) (ok : okE e) (hn : nodes e ≤ 1000) : Is Try.prog 45 [.g (eE e), .c (.sl 3 (ps.map eV))] (fR (fillTop ps e)) := by
  have c1 := rcheck_is e ok (by unfold Lim; omega) true
  have c2 := rparams_is e ok (by unfold Lim; omega)
  have c5 := parts_is e ok (by unfold Lim; omega)
  have hnx := nodes_filled ps e
  have okx := okE_filled (fun v hv => (hp v hv).2) e ok
  have c4 := rheight_is _ okx (by unfold Lim; omega)
  have c3 : checkE true e = 0 → paramsE e ≤ (ps.length : Nat) → Is Try.prog 96 [.g (eE e), .c (.sl 3 (ps.map eV))] (.g (eE (filledE ps e))) := fun h1 h2 => rfilled_is (fun v hv => (hp v hv).1) hl e ok (by unfold Lim; omega) (pin_of (check0 h1) h2)
  have hpin : checkE true e = 0 → paramsE e ≤ (ps.length : Nat) → ∀ x ∈ parts e, pin ps.length x = true := fun h1 h2 => by
    have := pin_of (check0 h1) h2
    rw [allE_parts, List.all_eq_true] at this
    exact this
  have hfo : checkE true e = 0 → filledOk ps e = (parts e).all (parOk ps) := fun h => filledOk_parts e (check0 h)
  have hlp := parts_len e
  unfold fillTop
  clear hnx okx ok
  generalize checkE true e = c at c1 c3 hpin hfo
  generalize paramsE e = n at c2 c3 hpin
  generalize filledE ps e = x at c3 c4
  generalize filledOk ps e = b at hfo
  generalize height x = m at c4
  generalize parts e = l at c5 hpin hfo hlp
  cases e
  refine Is.of TP Try.func45 rfl rfl (Nat.le_of_ble_eq_true rfl) fun st => Pw.of TP [] ?_
  conv => whnf
  intro id hid
  conv => whnf
  refine Is.callI c1 fun c' hc' => ?_
  subst hc'
  conv => whnf
  refine ⟨fun h => ?_, fun h => ?_⟩ <;> conv => whnf
  · repeat' (first | (apply Exists.intro; apply And.intro; (first | ((with_reducible (repeat (refine Eq.trans (upd_ne _ ?_) ?_; (first | assumption | (apply Ne.symm; assumption))))); first | exact upd_same _ _ _ | assumption) | ((repeat (refine Eq.trans (upd_ne _ ?_) ?_; (first | assumption | (apply Ne.symm; assumption)))); first | exact upd_same _ _ _ | assumption)); refine ⟨Nat.le_of_ble_eq_true rfl, ?_⟩; conv => whnf) | (apply Exists.intro; apply And.intro; (first | ((with_reducible (repeat (refine Eq.trans (upd_ne _ ?_) ?_; (first | assumption | (apply Ne.symm; assumption))))); first | exact upd_same _ _ _ | assumption) | ((repeat (refine Eq.trans (upd_ne _ ?_) ?_; (first | assumption | (apply Ne.symm; assumption)))); first | exact upd_same _ _ _ | assumption)); conv => whnf))
    exact Fin.zX (if_pos (by omega)) (by (first | (with_reducible (iterate 24 (try any_goals (first | exact Le.refl _ | assumption | apply Le.up2))); done) | (iterate 24 (try any_goals (first | exact Le.refl _ | assumption | apply Le.up2)))))
  have hc : c = 0 := by omega
  rw [if_neg (by omega)]
  refine Is.callI c2 fun n' hn' => ?_
  subst hn'
  conv => whnf
  refine ⟨fun h => ?_, fun h => ?_⟩ <;> conv => whnf
  · repeat' (first | (apply Exists.intro; apply And.intro; (first | ((with_reducible (repeat (refine Eq.trans (upd_ne _ ?_) ?_; (first | assumption | (apply Ne.symm; assumption))))); first | exact upd_same _ _ _ | assumption) | ((repeat (refine Eq.trans (upd_ne _ ?_) ?_; (first | assumption | (apply Ne.symm; assumption)))); first | exact upd_same _ _ _ | assumption)); refine ⟨Nat.le_of_ble_eq_true rfl, ?_⟩; conv => whnf) | (apply Exists.intro; apply And.intro; (first | ((with_reducible (repeat (refine Eq.trans (upd_ne _ ?_) ?_; (first | assumption | (apply Ne.symm; assumption))))); first | exact upd_same _ _ _ | assumption) | ((repeat (refine Eq.trans (upd_ne _ ?_) ?_; (first | assumption | (apply Ne.symm; assumption)))); first | exact upd_same _ _ _ | assumption)); conv => whnf))
    exact Fin.zX (if_pos (by rw [List.length_map] at h; exact h)) (by (first | (with_reducible (iterate 24 (try any_goals (first | exact Le.refl _ | assumption | apply Le.up2))); done) | (iterate 24 (try any_goals (first | exact Le.refl _ | assumption | apply Le.up2)))))
  rw [List.length_map] at h
  rw [if_neg h]
  have hb := hfo hc
  have hpin := hpin hc (by omega)
  subst hb
  refine Is.call c5 ?_
  conv => whnf
  have hll : l.length ≤ Big := by unfold Big; omega
  clear hfo c5 hlp hn c1 c2
  refine Pw.rng (τ := Unit) 8 l.length hll [1, 2, 4, 7] (fun _ => []) (fun i _ => ∀ x ∈ l.take i, parOk ps x = true) () rfl trivial (fun t h => by simp at h) fun i _ hi hx => Pw.of TP [] ?_
  conv => whnf
  refine ⟨fun h => ?_, fun h => ?_⟩ <;> conv => whnf
  · have hi' := ltE ‹_›
    have key : ∀ F : List AC → Prop, F (eE l[i]) → 0 ≤ (i : Int) ∧ (i : Int) < ((eEs l).length : Nat) ∧ ∃ r, (eEs l)[(i : Int).toNat]? = some r ∧ F r := fun F hF => ixE hi' hF
    have hpi := hpin _ (List.getElem_mem hi')
    have et := List.take_succ_eq_append_getElem hi'
    have hnext : parOk ps l[i] = true → ∀ x ∈ l.take (i + 1), parOk ps x = true := fun h2 x h => by
      rw [et] at h
      rcases List.mem_append.1 h with h | h
      · exact hx x h
      · simp at h; subst h; exact h2
    have hstop : parOk ps l[i] = false → l.all (parOk ps) = false := fun h2 => all_at hi' h2
    clear et
    generalize l[i] = y at hpi hnext hstop key
    obtain ⟨k, op, v, nm, kids⟩ := y
    refine key _ ?_
    conv => whnf
    refine ⟨fun h => ?_, fun h => ?_⟩ <;> conv => whnf
    · have hop : 1 ≤ op ∧ op ≤ ps.length := by simpa [pin, *] using hpi
      have hw : IntKind.i64.wrap (op - 1) = op - 1 := wid (by unfold in64; unfold Big at hl; omega)
      obtain ⟨j, hj⟩ : ∃ j : Nat, op - 1 = j := ⟨(op - 1).toNat, by omega⟩
      have hlt : j < ps.length := by omega
      have hpat : pat ps op = ps[j] := by unfold pat; rw [hj, Int.toNat_natCast, List.getD_eq_getElem?_getD, List.getElem?_eq_getElem hlt]; rfl
      have hv := hp _ (List.getElem_mem hlt)
      have hpo : parOk ps (.mk k op v nm kids) = vright ps[j] := by unfold parOk; dsimp only; rw [hpat]; simp [*]
      rw [hpo] at hnext hstop
      refine key _ ?_
      conv => whnf
      rw [hw, hj]
      refine ixm hlt ?_
      conv => whnf
      refine Is.callB (rvright_is _ hv.1.2) fun b hb => ?_
      cases b <;> conv => whnf
      · repeat' (first | (apply Exists.intro; apply And.intro; (first | ((with_reducible (repeat (refine Eq.trans (upd_ne _ ?_) ?_; (first | assumption | (apply Ne.symm; assumption))))); first | exact upd_same _ _ _ | assumption) | ((repeat (refine Eq.trans (upd_ne _ ?_) ?_; (first | assumption | (apply Ne.symm; assumption)))); first | exact upd_same _ _ _ | assumption)); refine ⟨Nat.le_of_ble_eq_true rfl, ?_⟩; conv => whnf) | (apply Exists.intro; apply And.intro; (first | ((with_reducible (repeat (refine Eq.trans (upd_ne _ ?_) ?_; (first | assumption | (apply Ne.symm; assumption))))); first | exact upd_same _ _ _ | assumption) | ((repeat (refine Eq.trans (upd_ne _ ?_) ?_; (first | assumption | (apply Ne.symm; assumption)))); first | exact upd_same _ _ _ | assumption)); conv => whnf))
        exact Fin.zX (if_pos (hstop hb)) (by (first | (with_reducible (iterate 24 (try any_goals (first | exact Le.refl _ | assumption | apply Le.up2))); done) | (iterate 24 (try any_goals (first | exact Le.refl _ | assumption | apply Le.up2)))))
      · exact ⟨hi', rfl, ⟨rfl, rfl, rfl, rfl, trivial⟩, (), trivial, .refl _, hnext hb⟩
    · have hpo : parOk ps (.mk k op v nm kids) = true := by unfold parOk; simp [*]
      exact ⟨hi', rfl, ⟨rfl, rfl, rfl, rfl, trivial⟩, (), trivial, .refl _, hnext hpo⟩
  · obtain rfl := nltE ‹_› hi
    rw [List.take_length] at hx
    rw [if_neg (by rw [List.all_eq_true.2 hx]; decide)]
    cases x
    refine Is.call (c3 hc (by omega)) ?_
    conv => whnf
    refine Is.callI c4 fun m' hm' => ?_
    subst hm'
    conv => whnf
    refine ⟨fun h => ?_, fun h => ?_⟩ <;> conv => whnf
    · repeat' (first | (apply Exists.intro; apply And.intro; (first | ((with_reducible (repeat (refine Eq.trans (upd_ne _ ?_) ?_; (first | assumption | (apply Ne.symm; assumption))))); first | exact upd_same _ _ _ | assumption) | ((repeat (refine Eq.trans (upd_ne _ ?_) ?_; (first | assumption | (apply Ne.symm; assumption)))); first | exact upd_same _ _ _ | assumption)); refine ⟨Nat.le_of_ble_eq_true rfl, ?_⟩; conv => whnf) | (apply Exists.intro; apply And.intro; (first | ((with_reducible (repeat (refine Eq.trans (upd_ne _ ?_) ?_; (first | assumption | (apply Ne.symm; assumption))))); first | exact upd_same _ _ _ | assumption) | ((repeat (refine Eq.trans (upd_ne _ ?_) ?_; (first | assumption | (apply Ne.symm; assumption)))); first | exact upd_same _ _ _ | assumption)); conv => whnf))
      exact Fin.zX (if_pos (by omega)) (by (first | (with_reducible (iterate 24 (try any_goals (first | exact Le.refl _ | assumption | apply Le.up2))); done) | (iterate 24 (try any_goals (first | exact Le.refl _ | assumption | apply Le.up2)))))
    · repeat' (first | (apply Exists.intro; apply And.intro; (first | ((with_reducible (repeat (refine Eq.trans (upd_ne _ ?_) ?_; (first | assumption | (apply Ne.symm; assumption))))); first | exact upd_same _ _ _ | assumption) | ((repeat (refine Eq.trans (upd_ne _ ?_) ?_; (first | assumption | (apply Ne.symm; assumption)))); first | exact upd_same _ _ _ | assumption)); refine ⟨Nat.le_of_ble_eq_true rfl, ?_⟩; conv => whnf) | (apply Exists.intro; apply And.intro; (first | ((with_reducible (repeat (refine Eq.trans (upd_ne _ ?_) ?_; (first | assumption | (apply Ne.symm; assumption))))); first | exact upd_same _ _ _ | assumption) | ((repeat (refine Eq.trans (upd_ne _ ?_) ?_; (first | assumption | (apply Ne.symm; assumption)))); first | exact upd_same _ _ _ | assumption)); conv => whnf))
      rw [if_neg (by omega)]
      exact Fin.old rfl (by (first | (with_reducible (iterate 24 (try any_goals (first | exact Le.refl _ | assumption | apply Le.up2))); done) | (iterate 24 (try any_goals (first | exact Le.refl _ | assumption | apply Le.up2)))))
end Go.Proofs.Ytbmgenifdlgbmaa.D
namespace Go.Proofs.Ytbmgenifdlgbmaa.D
set_option linter.unusedVariables false
set_option linter.unusedSimpArgs false
open Go Go.Proofs.Ytbmgenifdlgbmaa.D.Pm
set_option maxRecDepth 4000
def I64 (n : Int) : Prop := (Lit.int .i64 n).wf = true
def wfV (v : Val) : Prop := I64 v.k ∧ I64 v.n ∧ v.s.size ≤ maxLen
mutual
def wfE : Ex → Prop
  | .mk k op v n kids => I64 k ∧ I64 op ∧ wfV v ∧ n.size ≤ maxLen ∧ kids.length ≤ maxLen ∧ wfEs kids
def wfEs : List Ex → Prop
  | [] => True
  | e :: l => wfE e ∧ wfEs l
end
theorem wfEs_of : ∀ {l : List Ex}, (∀ e ∈ l, wfE e) → wfEs l
  | [], _ => trivial
  | e :: l, h => ⟨h e (List.mem_cons_self ..), wfEs_of fun x hx => h x (List.mem_cons_of_mem _ hx)⟩
theorem wfEs_all : ∀ {l : List Ex}, wfEs l → ∀ e ∈ l, wfE e
  | e :: l, h, x, hx => by
    rcases List.mem_cons.1 hx with rfl | hx
    · exact h.1
    · exact wfEs_all h.2 x hx
theorem rdV (m : Nat) : Rd Try.prog 23 eV wfV m :=
  (Rd.st (fun a : Int × Int × ByteArray => (⟨a.1, a.2.1, a.2.2⟩ : Val)) (by exact fun a => ⟨rfl, fun h => h⟩) Try.underlying23 (by kernel_rfl)
    (RdF.cons (s1 := 1) rfl (by kernel_rfl) (Rd.int Try.underlying3) (RdF.cons (s1 := 1) rfl (by kernel_rfl) (Rd.int Try.underlying3) (RdF.last (sz := 1) rfl (by kernel_rfl) (Rd.str Try.underlying9))))).less
theorem rdE : ∀ m, Rd Try.prog 26 eE wfE m
  | 0 => Rd.zero
  | m + 1 => Rd.st (fun a : Int × Int × Val × ByteArray × List Ex => Ex.mk a.1 a.2.1 a.2.2.1 a.2.2.2.1 a.2.2.2.2) (by exact fun a => ⟨by rw [eE, eEs_map]; rfl, fun h => ⟨h.1, h.2.1, h.2.2.1, h.2.2.2.1, h.2.2.2.2.1, wfEs_of h.2.2.2.2.2⟩⟩) Try.underlying26 (by kernel_rfl)
      (RdF.cons (s1 := 1) rfl (by kernel_rfl) (Rd.int Try.underlying3) (RdF.cons (s1 := 1) rfl (by kernel_rfl) (Rd.int Try.underlying3) (RdF.cons (s1 := 3) rfl (by kernel_rfl) (rdV m) (RdF.cons (s1 := 1) rfl (by kernel_rfl) (Rd.str Try.underlying9)
        (RdF.last (sz := 1) rfl (by kernel_rfl) (Rd.sl (sz := 7) (by decide) Try.underlying24 (by kernel_rfl) (rdE m)))))))
def wfVs (r : List Val) : Prop := r.length ≤ maxLen ∧ ∀ v ∈ r, wfV v
theorem rdVs (m : Nat) : Rd Try.prog 61 (fun l => [.sl 3 (l.map eV)]) wfVs m := Rd.sl (sz := 3) (by decide) Try.underlying61 (by kernel_rfl) (rdV m)
theorem in64_of {n : Int} (h : I64 n) : in64 n := by
  unfold I64 at h
  simp [Lit.wf, IntKind.min, IntKind.max, IntKind.bits, IntKind.signed] at h
  unfold in64
  omega
mutual
theorem inE_of : ∀ {e : Ex}, wfE e → inE e
  | .mk k op v n kids, h => ⟨in64_of h.2.2.1.2.1, inEs_of h.2.2.2.2.2⟩
theorem inEs_of : ∀ {l : List Ex}, wfEs l → inEs l
  | [], _ => trivial
  | e :: l, h => ⟨inE_of h.1, inEs_of h.2⟩
end
end Go.Proofs.Ytbmgenifdlgbmaa.D
namespace Go.Proofs.Ytbmgenifdlgbmaa.D
set_option linter.unusedVariables false
set_option linter.unusedSimpArgs false
open Go Go.Proofs.Ytbmgenifdlgbmaa.D.Pm
set_option maxRecDepth 4000
def fewV (l : List Val) : Bool := decide (l.length ≤ 12) && l.all (fun v => decide (v.s.size ≤ 100))
def vsC (l : List Val) : List AC := [.sl 3 (l.map eV)]
theorem few_v (ls : List (List Val)) (hl : ls.length ≤ Big) : Is Try.prog 42 [.c (.sl 1 (ls.map vsC))] (vB (ls.all fewV)) := by
  refine Is.of TP Try.func42 rfl rfl (Nat.le_of_ble_eq_true rfl) fun st => Pw.of TP [] ?_
  conv => whnf
  refine Pw.rng (τ := Unit) 3 (ls.map vsC).length (by simpa using hl) [0] (fun _ => []) (fun i _ => ∀ l ∈ ls.take i, fewV l = true) () rfl trivial (fun t h => by simp at h) fun i _ hi hx => Pw.of TP [] ?_
  conv => whnf
  refine ⟨fun h => ?_, fun h => ?_⟩ <;> conv => whnf
  · have hi' : i < ls.length := lt_map h
    have key : ∀ F : List AC → Prop, F (vsC ls[i]) → 0 ≤ (i : Int) ∧ (i : Int) < ((ls.map vsC).length : Nat) ∧ ∃ r, (ls.map vsC)[(i : Int).toNat]? = some r ∧ F r := fun F hF => ixm hi' hF
    have hnext : fewV ls[i] = true → ∀ l ∈ ls.take (i + 1), fewV l = true := fun h2 l h => by
      rw [List.take_succ_eq_append_getElem hi'] at h
      rcases List.mem_append.1 h with h | h
      · exact hx l h
      · simp at h; subst h; exact h2
    have hstop : fewV ls[i] = false → ls.all fewV = false := fun h2 => all_at hi' h2
    generalize ls[i] = l at key hnext hstop
    refine key _ ?_
    conv => whnf
    refine ⟨fun h => ?_, fun h => ?_⟩ <;> conv => whnf
    · (refine Fin.old (congrArg vB ?_) (.refl _); rw [hstop]; unfold fewV; simp at *; omega)
    · have hl12 : l.length ≤ 12 := by simp at *; omega
      refine Pw.rng (τ := Unit) 4 (l.map eV).length (by simp; unfold Big; omega) [0, 3] (fun _ => []) (fun j _ => ∀ v ∈ l.take j, v.s.size ≤ 100) () rfl trivial (fun t h => by simp at h) fun j _ hj hy => Pw.of TP [] ?_
      conv => whnf
      refine key _ ?_
      conv => whnf
      refine ⟨fun h => ?_, fun h => ?_⟩ <;> conv => whnf
      · have hj' : j < l.length := lt_map ‹_›
        refine key _ ?_
        conv => whnf
        refine ixm hj' ?_
        conv => whnf
        refine ⟨fun h => ?_, fun h => ?_⟩ <;> conv => whnf
        · (refine Fin.old (congrArg vB ?_) (.refl _); rw [hstop]; unfold fewV; rw [all_at hj' (decide_eq_false (by omega))]; simp)
        · refine ⟨by simpa using hj', rfl, ⟨rfl, rfl, trivial⟩, (), trivial, .refl _, fun v hv => ?_⟩
          rw [List.take_succ_eq_append_getElem hj'] at hv
          rcases List.mem_append.1 hv with hv | hv
          · exact hy v hv
          · simp at hv; subst hv; omega
      · have hj' := nlt_map ‹_› (by simpa using hj)
        subst hj'
        rw [List.take_length] at hy
        exact ⟨by simpa using hi', rfl, ⟨rfl, trivial⟩, (), trivial, .refl _, hnext (by unfold fewV; rw [decide_eq_true hl12, List.all_eq_true.2 (fun v hv => decide_eq_true (hy v hv))]; rfl)⟩
  · have hi' := nlt_map h (by simpa using hi)
    subst hi'
    rw [List.take_length] at hx
    (refine Fin.old (congrArg vB ?_) (.refl _); symm; exact List.all_eq_true.2 hx)
theorem fewV_of {l : List Val} (h : fewV l = true) : l.length ≤ 12 ∧ ∀ v ∈ l, v.s.size ≤ 100 := by
  unfold fewV at h
  rw [Bool.and_eq_true, List.all_eq_true] at h
  exact ⟨of_decide_eq_true h.1, fun v hv => of_decide_eq_true (h.2 v hv)⟩
end Go.Proofs.Ytbmgenifdlgbmaa.D
namespace Go.Proofs.Ytbmgenifdlgbmaa.D
set_option linter.unusedVariables false
set_option linter.unusedSimpArgs false
open Go Go.Proofs.Ytbmgenifdlgbmaa.D.Pm
set_option maxRecDepth 4000
theorem eqE_refl : ∀ e, eqE e e = true := by
  refine Ex.ind fun k op v nm kids ih => ?_
  have : eqEs kids kids = true := by
    clear v
    induction kids with
    | nil => rfl
    | cons a l ih2 => rw [eqEs, ih a (List.mem_cons_self ..), ih2 fun e he => ih e (List.mem_cons_of_mem _ he)]; rfl
  rw [eqE, this]
  simp
theorem few_ok {e : Ex} {n : Int} (h : fewE n e = true) : okE e ∧ (nodes e : Int) ≤ n := by
  unfold fewE at h
  cases hc : cnt e n with
  | none => rw [hc] at h; cases h
  | some m =>
    obtain ⟨h1, h2, h3⟩ := cnt_ok e n m hc
    exact ⟨h1, by omega⟩
theorem okV_of {l : List Val} (h : wfVs l) (hf : fewV l = true) : (∀ v ∈ l, okV v ∧ v.s.size < Big) ∧ l.length ≤ Big := by
  obtain ⟨h1, h2⟩ := fewV_of hf
  refine ⟨fun v hv => ?_, by unfold Big; omega⟩
  have := h2 v hv
  exact ⟨⟨in64_of (h.2 v hv).2.1, by unfold Big; omega⟩, by unfold Big; omega⟩
theorem evalFills_law (e : Ex) (ps : List Val) (we : wfE e) (wp : wfVs ps) : Is Try.prog 9 [.g (eE e), .c (.sl 3 (ps.map eV))] (vB true) := by
  have c1 := few_v [ps] (Nat.le_of_ble_eq_true rfl)
  have c2 := few_is e 60 (by decide)
  have c3 : fewV ps = true → fewE 60 e = true → Is Try.prog 44 [.g (eE e), .c (.sl 3 (ps.map eV))] (fR (fillTop ps e)) := fun h1 h2 => Fill_is (okV_of wp h1).1 (okV_of wp h1).2 e (few_ok h2).1 (by have := (few_ok h2).2; omega)
  have c4 : fewV ps = true → fewE 60 e = true → Is Try.prog 45 [.g (eE e), .c (.sl 3 (ps.map eV))] (fR (fillTop ps e)) := fun h1 h2 => rFill_is (okV_of wp h1).1 (okV_of wp h1).2 e (few_ok h2).1 (by have := (few_ok h2).2; omega)
  have c5 : fewV ps = true → fewE 60 e = true → okE (fillTop ps e).1 := fun h1 h2 => by
    have hx := okE_filled (fun v hv => ((okV_of wp h1).1 v hv).2) e (few_ok h2).1
    have hz : okE zEx := ⟨big0, big0, Nat.zero_le _, trivial⟩
    unfold fillTop
    repeat' split
    all_goals first | exact hz | exact hx
  have c6 : fewV ps = true → fewE 60 e = true → Is Try.prog 46 [.g (eE (fillTop ps e).1), .g (eE (fillTop ps e).1)] (vB true) := fun h1 h2 => by
    have := rsame_is _ (c5 h1 h2) (fillTop ps e).1
    rwa [eqE_refl] at this
  clear c5
  generalize fillTop ps e = p at c3 c4 c6
  obtain ⟨x, f⟩ := p
  have hps : [ps].all fewV = fewV ps := by simp
  rw [hps] at c1
  generalize fewV ps = b1 at c1 c3 c4 c6
  generalize fewE 60 e = b2 at c2 c3 c4 c6
  cases e
  cases x
  refine Is.of TP Try.func9 rfl rfl (Nat.le_of_ble_eq_true rfl) fun st => Pw.of TP [] ?_
  conv => whnf
  refine Is.callB c1 fun b hb => ?_
  subst hb
  cases b1 <;> conv => whnf
  · refine works_is.call ?_
    conv => whnf
    exact Fin.old rfl (.refl _)
  refine Is.callB c2 fun b hb => ?_
  subst hb
  cases b2 <;> conv => whnf
  · refine works_is.call ?_
    conv => whnf
    exact Fin.old rfl (.refl _)
  refine Is.call (c3 rfl rfl) ?_
  conv => whnf
  refine Is.call (c4 rfl rfl) ?_
  conv => whnf
  refine Is.call (c6 rfl rfl) ?_
  conv => whnf
  refine ⟨fun h => ?_, fun h => ?_⟩ <;> conv => whnf
  · refine works_is.call ?_
    conv => whnf
    exact Fin.old rfl (.refl _)
  · exact absurd rfl h
end Go.Proofs.Ytbmgenifdlgbmaa.D
namespace Go.Proofs.Ytbmgenifdlgbmaa.D
set_option linter.unusedVariables false
set_option linter.unusedSimpArgs false
open Go Go.Proofs.Ytbmgenifdlgbmaa.D.Pm
set_option maxRecDepth 4000
theorem fill_ok {ps : List Val} {e x : Ex} (h : fillTop ps e = (x, 0)) : checkE true e = 0 ∧ paramsE e ≤ (ps.length : Nat) ∧ height (filledE ps e) ≤ 8 ∧ x = filledE ps e := by
  unfold fillTop at h
  split at h
  · rename_i h1
    simp only [Prod.mk.injEq] at h
    omega
  · rename_i h1
    split at h
    · simp at h
    · split at h
      · simp at h
      · split at h
        · simp at h
        · simp only [Prod.mk.injEq, and_true] at h
          exact ⟨by omega, by omega, by omega, h.symm⟩
theorem rightE_len {k op : Int} {v : Val} {nm : ByteArray} {kids kids' : List Ex} (h : kids'.length = kids.length) : rightE true (.mk k op v nm kids') = rightE true (.mk k op v nm kids) := by
  simp only [rightE, bare, h]
theorem right_lit {v : Val} (hv : vright v = true) (hn : in64 v.n) : allE (rightE true) (litE v) = true := by
  have e0 : ∀ w : Val, vright w = true → (w.k ≠ 1 ∨ 0 ≤ w.n) → allE (rightE true) (litX w) = true := fun w h1 h2 => by
    simp [litX, allE, allEs, rightE, bare, h1]
    omega
  unfold litE
  split
  · exact e0 v hv ‹_›
  · split
    · decide +kernel
    · have := e0 ⟨1, -v.n, ⟨#[]⟩⟩ (by simp [vright]) (.inr (by show 0 ≤ -v.n; omega))
      simp [allE, allEs, rightE, bare, zV, this]
theorem right_filled {ps : List Val} (hr : ∀ v ∈ ps, vright v = true ∧ in64 v.n) : ∀ e, allE (rightE true) e = true → allE (rightE true) (filledE ps e) = true := by
  refine Ex.ind fun k op v nm kids ih h => ?_
  rw [allE, Bool.and_eq_true, allEs_all, List.all_eq_true] at h
  unfold filledE
  split
  · have := pat_of (p := fun v => vright v = true ∧ in64 v.n) hr ⟨by decide, by unfold in64 zV; decide⟩ op
    exact right_lit this.1 this.2
  · rw [allE, Bool.and_eq_true, rightE_len (kids := kids) (by rw [filledEs_map, List.length_map]), allEs_all, filledEs_map, List.all_eq_true]
    refine ⟨h.1, fun x hx => ?_⟩
    obtain ⟨y, hy, rfl⟩ := List.mem_map.1 hx
    exact ih y hy (h.2 y hy)
theorem in_lit {v : Val} (hn : in64 v.n) : inE (litE v) := by
  unfold litE
  split
  · exact ⟨hn, trivial⟩
  · split
    · refine ⟨?_, ⟨?_, ⟨?_, trivial⟩, trivial⟩, ⟨?_, trivial⟩, trivial⟩ <;> (unfold in64; simp [zV])
    · refine ⟨?_, ⟨?_, trivial⟩, trivial⟩ <;> (unfold in64 at *; simp [zV]; try omega)
theorem inEs_of2 : ∀ {l : List Ex}, (∀ e ∈ l, inE e) → inEs l
  | [], _ => trivial
  | e :: l, h => ⟨h e (List.mem_cons_self ..), inEs_of2 fun x hx => h x (List.mem_cons_of_mem _ hx)⟩
theorem in_filled {ps : List Val} (hr : ∀ v ∈ ps, in64 v.n) : ∀ e, inE e → inE (filledE ps e) := by
  refine Ex.ind fun k op v nm kids ih h => ?_
  unfold filledE
  split
  · exact in_lit (pat_of (p := fun v => in64 v.n) hr (by unfold in64 zV; decide) op)
  · refine ⟨h.1, ?_⟩
    rw [filledEs_map]
    refine inEs_of2 fun x hx => ?_
    obtain ⟨y, hy, rfl⟩ := List.mem_map.1 hx
    exact ih y hy (inEs_all h.2 y hy)
theorem eval_lit {row : List Val} {v : Val} (hv : vright v = true) (hn : in64 v.n) : evalE row [] (litE v) = (v, 0) := by
  unfold litE
  split
  · rfl
  · rename_i h
    obtain ⟨k, n, s⟩ := v
    dsimp only at h hn ⊢
    have hk : k = 1 := by omega
    subst hk
    have hs : s = ⟨#[]⟩ := by simpa [vright] using hv
    subst hs
    split
    · rename_i h2
      subst h2
      rfl
    · have e : eun 1 (⟨1, -n, ⟨#[]⟩⟩, 0) = (⟨1, n, ⟨#[]⟩⟩, 0) := by
        unfold in64 at hn
        simp [eun, ewhole, res, hn.1, hn.2]
      exact e
theorem eval_filled {row ps : List Val} (hr : ∀ v ∈ ps, vright v = true ∧ in64 v.n) (hl : ps.length ≤ Big) : ∀ e, allE (pin ps.length) e = true → evalE row [] (filledE ps e) = evalE row ps e := by
  refine Ex.ind fun k op v nm kids ih h => ?_
  rw [allE, Bool.and_eq_true, allEs_all, List.all_eq_true] at h
  unfold filledE
  by_cases hk : k = 3
  · subst hk
    rw [if_pos rfl]
    have hop : 1 ≤ op ∧ op ≤ ps.length := by simpa [pin] using h.1
    have hw : IntKind.i64.wrap (op - 1) = op - 1 := wid (by unfold in64; unfold Big at hl; omega)
    have hlt : (op - 1).toNat < ps.length := by omega
    have hp : pat ps op = ps[(op - 1).toNat] := by unfold pat; rw [List.getD_eq_getElem?_getD, List.getElem?_eq_getElem hlt]; rfl
    have := hr _ (List.getElem_mem hlt)
    rw [hp, eval_lit this.1 this.2, evalE]
    simp only [hw]
    unfold eone
    rw [List.getElem?_eq_getElem hlt]
    simp
    omega
  · rw [if_neg hk]
    have hk2 : evalEs row [] (filledEs ps kids) = evalEs row ps kids := by
      rw [evalEs_map, evalEs_map, filledEs_map, List.map_map]
      exact List.map_congr_left fun e he => ih e he (h.2 e he)
    rw [evalE, evalE, hk2]
    simp only [hk, if_false]
theorem no_par {ps : List Val} (h3 : ∀ v : Val, True) : ∀ e, allE (fun e => !decide (kindE e = 3)) (filledE ps e) = true := by
  have el : ∀ v, allE (fun e => !decide (kindE e = 3)) (litE v) = true := fun v => by
    unfold litE litX
    repeat' split
    all_goals simp [allE, allEs, kindE]
  refine Ex.ind fun k op v nm kids ih => ?_
  unfold filledE
  split
  · exact el _
  · rename_i hk
    rw [allE, Bool.and_eq_true, allEs_all, filledEs_map, List.all_eq_true]
    refine ⟨by simp [kindE, hk], fun x hx => ?_⟩
    obtain ⟨y, hy, rfl⟩ := List.mem_map.1 hx
    exact ih y hy
theorem params0 {ps : List Val} (e : Ex) : paramsE (filledE ps e) = 0 := by
  have h := no_par (ps := ps) (fun _ => trivial) e
  rw [allE_parts, List.all_eq_true] at h
  unfold paramsE
  rw [fold_parts]
  generalize parts (filledE ps e) = l at h
  induction l with
  | nil => rfl
  | cons a l ih =>
    have h1 := h a (List.mem_cons_self ..)
    rw [List.foldl_cons, show maxPar 0 a = 0 by unfold maxPar; simp at h1; rw [if_neg h1]]
    exact ih fun x hx => h x (List.mem_cons_of_mem _ hx)
end Go.Proofs.Ytbmgenifdlgbmaa.D
namespace Go.Proofs.Ytbmgenifdlgbmaa.D
set_option linter.unusedVariables false
set_option linter.unusedSimpArgs false
open Go Go.Proofs.Ytbmgenifdlgbmaa.D.Pm
set_option maxRecDepth 4000
theorem evalFilled_law (e : Ex) (row ps : List Val) (we : wfE e) (wr : wfVs row) (wp : wfVs ps) : Is Try.prog 10 [.g (eE e), .c (.sl 3 (row.map eV)), .c (.sl 3 (ps.map eV))] (vB true) := by
  have c1 := few_v [row, ps] (Nat.le_of_ble_eq_true rfl)
  have hps : [row, ps].all fewV = (fewV row && fewV ps) := by simp
  rw [hps] at c1
  have c2 := few_is e 60 (by decide)
  by_cases hf : (fewV row && fewV ps) = true ∧ fewE 60 e = true
  · obtain ⟨hf1, hf2⟩ := hf
    rw [hf1] at c1
    rw [hf2] at c2
    rw [Bool.and_eq_true] at hf1
    obtain ⟨ok, hn⟩ := few_ok hf2
    obtain ⟨okp, lp⟩ := okV_of wp hf1.2
    obtain ⟨okr, lr⟩ := okV_of wr hf1.1
    have hi := inE_of we
    have c3 := Fill_is okp lp e ok (by omega)
    have c4 := Eval_is (row := row) (ps := ps) (fun v hv => (okr v hv).1) (fun v hv => (okp v hv).1) e ok hi
    have okx := okE_filled (fun v hv => (okp v hv).2) e ok
    have hix := in_filled (fun v hv => (okp v hv).1.1) e hi
    have c5 := Eval_is (row := row) (ps := []) (fun v hv => (okr v hv).1) (fun v hv => by cases hv) _ okx hix
    have hnx := nodes_filled ps e
    have c6 := rparams_is _ okx (by unfold Lim; omega)
    rw [params0] at c6
    have key : ∀ x, fillTop ps e = (x, 0) → (∀ v ∈ ps, vright v = true) → x = filledE ps e ∧ evalTop row [] (filledE ps e) = evalTop row ps e := fun x hx hr => by
      obtain ⟨h1, h2, h3, h4⟩ := fill_ok hx
      refine ⟨h4, ?_⟩
      have hr2 : ∀ v ∈ ps, vright v = true ∧ in64 v.n := fun v hv => ⟨hr v hv, (okp v hv).1.1⟩
      have h5 := right_filled hr2 e (check0 h1)
      have h6 : checkE true (filledE ps e) = 0 := by unfold checkE; rw [if_neg (by omega), if_pos h5]
      unfold evalTop
      rw [h1, h6, eval_filled hr2 lp e (pin_of (check0 h1) h2)]
    generalize fillTop ps e = p at c3 key
    generalize filledE ps e = y at c5 c6 key
    generalize evalTop row [] y = q at c5 key
    generalize evalTop row ps e = q' at c4 key
    obtain ⟨x, f⟩ := p
    obtain ⟨v, g⟩ := q
    obtain ⟨v', g'⟩ := q'
    clear okx hix hnx hi ok hn hf1 hf2
    cases e
    refine Is.of TP Try.func10 rfl rfl (Nat.le_of_ble_eq_true rfl) fun st => Pw.of TP [] ?_
    conv => whnf
    refine Is.call c1 ?_
    conv => whnf
    refine Is.call c2 ?_
    conv => whnf
    refine Pw.rng (τ := Unit) 7 (ps.map eV).length (by simpa using lp) [1, 2, 3] (fun _ => []) (fun i _ => ∀ v ∈ ps.take i, vright v = true) () rfl trivial (fun t h => by simp at h) fun i _ hi hx => Pw.of TP [] ?_
    conv => whnf
    refine ⟨fun h => ?_, fun h => ?_⟩ <;> conv => whnf
    · have hi' : i < ps.length := lt_map h
      refine ixm hi' ?_
      conv => whnf
      refine Is.callB (rvright_is _ (okp _ (List.getElem_mem hi')).1.2) fun b hb => ?_
      cases b <;> conv => whnf
      · refine works_is.call ?_
        conv => whnf
        exact Fin.old rfl (.refl _)
      · exact ⟨by simpa using hi', rfl, ⟨rfl, rfl, rfl, trivial⟩, (), trivial, .refl _, fun v hv => by
          rw [List.take_succ_eq_append_getElem hi'] at hv
          rcases List.mem_append.1 hv with hv | hv
          · exact hx v hv
          · simp at hv; subst hv; exact hb⟩
    · have hi' := nlt_map h (by simpa using hi)
      subst hi'
      rw [List.take_length] at hx
      cases x
      refine Is.call c3 ?_
      conv => whnf
      refine ⟨fun h => ?_, fun h => ?_⟩ <;> conv => whnf
      · refine works_is.call ?_
        conv => whnf
        exact Fin.old rfl (.refl _)
      · have hf0 : f = 0 := by dsimp only at *; omega
        subst hf0
        obtain ⟨k1, k2⟩ := key _ rfl hx
        subst k1
        cases k2
        refine Does.args (as' := [.g (eE _), .c (.sl 3 (row.map eV)), .c (.sl 3 [])]) rfl (fun j r r' h1 h2 => ?_) (c5.call ?_)
        · match j, h1, h2 with
          | 0, h1, h2 => cases h1; cases h2; exact .refl _
          | 1, h1, h2 => cases h1; cases h2; exact .refl _
          | 2, h1, h2 => cases h1; cases h2; exact .c _ _ (.nil 3)
          | j + 3, h1, h2 => simp at h2
        conv => whnf
        refine Is.call c4 ?_
        conv => whnf
        refine ⟨fun _ => ?_, fun h => absurd ⟨rfl, rfl, rfl, trivial⟩ h⟩
        conv => whnf
        refine ⟨fun _ => ?_, fun h => absurd rfl h⟩
        conv => whnf
        refine Is.call c6 ?_
        conv => whnf
        refine ⟨fun _ => ?_, fun h => absurd rfl h⟩
        conv => whnf
        refine works_is.call ?_
        conv => whnf
        exact Fin.old rfl (.refl _)
  · generalize (fewV row && fewV ps) = b1 at c1 hf
    generalize fewE 60 e = b2 at c2 hf
    cases e
    refine Is.of TP Try.func10 rfl rfl (Nat.le_of_ble_eq_true rfl) fun st => Pw.of TP [] ?_
    conv => whnf
    refine Is.callB c1 fun b hb => ?_
    subst hb
    cases b1 <;> conv => whnf
    · refine works_is.call ?_
      conv => whnf
      exact Fin.old rfl (.refl _)
    refine Is.callB c2 fun b hb => ?_
    subst hb
    cases b2 <;> conv => whnf
    · refine works_is.call ?_
      conv => whnf
      exact Fin.old rfl (.refl _)
    · exact absurd ⟨rfl, rfl⟩ hf
end Go.Proofs.Ytbmgenifdlgbmaa.D
