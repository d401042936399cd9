/- Words and contracts: a plain machine over the model, and what the functions that a law reaches come to, each for every input that its theorem names. -/
import Derived.Test.YtbmgenifdlgbmaaK3
import Derived.Test.YtbmgenifdlgbmaaK1
import Derived.Test.YtbmgenifdlgbmaaV2
namespace Go.Proofs.Ytbmgenifdlgbmaa.D
set_option linter.unusedVariables false
set_option linter.unusedSimpArgs false
open Go Go.Proofs.Ytbmgenifdlgbmaa.D.Pm
set_option maxRecDepth 4000
theorem xheight_is : ∀ e, okE e → nodes e ≤ Lim → Is Try.prog 94 [.g (eE e)] (vI .i64 (height e : Nat)) := by
  refine Ex.ind fun k op v n kids ih ok hn => ?_
  rw [nodes] at hn
  have hh := heights_nodes kids
  unfold Lim at hn
  refine Is.of TP Try.func94 rfl rfl (Nat.le_of_ble_eq_true rfl) fun st => Pw.of TP [] ?_
  conv => whnf
  refine Pw.rng (τ := Nat) 9 kids.length ok.2.2.1 [1, 7, 8] (fun m => [(3, vI .i64 m)]) (fun i m => m = heights (kids.take i)) 0 rfl ⟨rfl, trivial⟩ rfl fun i m hi hx => Pw.of TP [] ?_
  conv => whnf
  repeat' (first | (refine ⟨fun h => ?_, fun h => ?_⟩ <;> conv => whnf) | fail)
  · have hi' := ltE ‹_›
    refine ixE hi' ?_
    have hm := ih kids[i] (List.getElem_mem hi') (okEs_all ok.2.2.2 _ (List.getElem_mem hi')) (Nat.le_trans (nodes_mem (List.getElem_mem hi')) (by unfold Lim; omega))
    have hs := heights_take hi'
    generalize kids[i] = e at hm hs ⊢
    generalize height e = he at hm hs
    cases e
    conv => whnf
    refine hm.call ?_
    conv => whnf
    have key : (if (he : Int) > (m : Int) then (he : Int) else (m : Int)) = ((heights (kids.take (i + 1)) : Nat) : Int) := by
      rw [hs, ← hx]; split <;> omega
    exact ⟨hi', rfl, ⟨rfl, rfl, rfl, trivial⟩, heights (kids.take (i + 1)), ⟨congrArg (fun x => some (vI .i64 x)) key, trivial⟩, .refl _, rfl⟩
  · obtain rfl := nltE ‹_› hi
    rw [List.take_length] at hx
    refine Fin.old (congrArg (vI .i64) ?_) (.refl _)
    rw [wrap_id (by omega) (by omega), height, hx]; rfl
/-- a value as an expression -/
def litX (v : Val) : Ex := .mk 1 0 v ⟨#[]⟩ []
def litE (v : Val) : Ex :=
  if v.k ≠ 1 ∨ 0 ≤ v.n then litX v
  else if v.n = -9223372036854775808 then .mk 5 10 zV ⟨#[]⟩ [.mk 4 1 zV ⟨#[]⟩ [litX ⟨1, 9223372036854775807, ⟨#[]⟩⟩], litX ⟨1, 1, ⟨#[]⟩⟩]
  else .mk 4 1 zV ⟨#[]⟩ [litX ⟨1, -v.n, ⟨#[]⟩⟩]
theorem Fin.lit {st0 st : Sto} {v : Val} {t : AC} {e : Ex} (he : e = litX v) (h : Le st0 st) : Fin (fun r s => r = .g (eE e) ∧ s = st0) (.g [.v (.int .i64 1), .v (.int .i64 0), .v (.int .i64 v.k), .v (.int .i64 v.n), .v (.string v.s), .v (.string ⟨#[]⟩), .v (.slice none 0 0)]) st := by
  subst he
  exact ⟨fun _ => false, st0, .g (eE (litX v)), FV.gl (.cons (.refl _) (.cons (.refl _) (.cons (.refl _) (.cons (.refl _) (.cons (.refl _) (.cons (.refl _) (.cons (.nil 7) .nil))))))), fun i o ho => ⟨h i o ho, rfl⟩, rfl, rfl⟩
theorem lit0_is (v : Val) (h0 : v.k ≠ 1 ∨ 0 ≤ v.n) : Is Try.prog 123 [.g (eV v)] (.g (eE (litX v))) := by
  refine Is.of TP Try.func123 rfl rfl (Nat.le_of_ble_eq_true rfl) fun st => Pw.of TP [] ?_
  conv => whnf
  intro id hid
  conv => whnf
  repeat' (first | (refine ⟨fun h => ?_, fun h => ?_⟩ <;> conv => whnf) | (apply Exists.intro; apply And.intro; (first | ((with_reducible (repeat (refine Eq.trans (upd_ne _ ?_) ?_; (first | assumption | (apply Ne.symm; assumption))))); first | exact upd_same _ _ _ | assumption) | ((repeat (refine Eq.trans (upd_ne _ ?_) ?_; (first | assumption | (apply Ne.symm; assumption)))); first | exact upd_same _ _ _ | assumption)); refine ⟨Nat.le_of_ble_eq_true rfl, ?_⟩; conv => whnf) | (apply Exists.intro; apply And.intro; (first | ((with_reducible (repeat (refine Eq.trans (upd_ne _ ?_) ?_; (first | assumption | (apply Ne.symm; assumption))))); first | exact upd_same _ _ _ | assumption) | ((repeat (refine Eq.trans (upd_ne _ ?_) ?_; (first | assumption | (apply Ne.symm; assumption)))); first | exact upd_same _ _ _ | assumption)); conv => whnf))
  all_goals first | exact Fin.lit (t := .v (.bool true)) rfl (by (first | (with_reducible (iterate 24 (try any_goals (first | exact Le.refl _ | assumption | apply Le.up2))); done) | (iterate 24 (try any_goals (first | exact Le.refl _ | assumption | apply Le.up2))))) | skip
  all_goals (exfalso; omega)
theorem lit1_is (v : Val) (h0 : ¬ (v.k ≠ 1 ∨ 0 ≤ v.n)) (h1 : v.n ≠ -9223372036854775808) (hv : in64 v.n) : Is Try.prog 123 [.g (eV v)] (.g (eE (litE v))) := by
  have e : litE v = .mk 4 1 zV ⟨#[]⟩ [litX ⟨1, -v.n, ⟨#[]⟩⟩] := by unfold litE; rw [if_neg h0, if_neg h1]
  rw [e]
  have c := lit0_is ⟨1, -v.n, ⟨#[]⟩⟩ (.inr (by show 0 ≤ -v.n; omega))
  refine Is.of TP Try.func123 rfl rfl (Nat.le_of_ble_eq_true rfl) fun st => Pw.of TP [] ?_
  conv => whnf
  intro id hid
  conv => whnf
  have hb : res (-v.n) = (-v.n, 0) := res_in (by unfold in64 at *; omega)
  repeat' (first | (refine ⟨fun h => ?_, fun h => ?_⟩ <;> conv => whnf) | (apply Exists.intro; apply And.intro; (first | ((with_reducible (repeat (refine Eq.trans (upd_ne _ ?_) ?_; (first | assumption | (apply Ne.symm; assumption))))); first | exact upd_same _ _ _ | assumption) | ((repeat (refine Eq.trans (upd_ne _ ?_) ?_; (first | assumption | (apply Ne.symm; assumption)))); first | exact upd_same _ _ _ | assumption)); refine ⟨Nat.le_of_ble_eq_true rfl, ?_⟩; conv => whnf) | (apply Exists.intro; apply And.intro; (first | ((with_reducible (repeat (refine Eq.trans (upd_ne _ ?_) ?_; (first | assumption | (apply Ne.symm; assumption))))); first | exact upd_same _ _ _ | assumption) | ((repeat (refine Eq.trans (upd_ne _ ?_) ?_; (first | assumption | (apply Ne.symm; assumption)))); first | exact upd_same _ _ _ | assumption)); conv => whnf) | (refine Is.callN (back_is hv) fun x y e => ?_; rw [hb] at e; cases e; conv => whnf) | (refine c.call ?_; conv => whnf))
  all_goals first | (exfalso; omega) | skip
  exact Fin.old rfl (by (first | (with_reducible (iterate 24 (try any_goals (first | exact Le.refl _ | assumption | apply Le.up2))); done) | (iterate 24 (try any_goals (first | exact Le.refl _ | assumption | apply Le.up2)))))
theorem lit2_is (v : Val) (h0 : ¬ (v.k ≠ 1 ∨ 0 ≤ v.n)) (h1 : v.n = -9223372036854775808) : Is Try.prog 123 [.g (eV v)] (.g (eE (litE v))) := by
  have e : litE v = .mk 5 10 zV ⟨#[]⟩ [.mk 4 1 zV ⟨#[]⟩ [litX ⟨1, 9223372036854775807, ⟨#[]⟩⟩], litX ⟨1, 1, ⟨#[]⟩⟩] := by unfold litE; rw [if_neg h0, if_pos h1]
  rw [e]
  have c := lit1_is ⟨1, -9223372036854775807, ⟨#[]⟩⟩ (by decide) (by decide) (by unfold in64; decide)
  have c1 := lit0_is ⟨1, 1, ⟨#[]⟩⟩ (by decide)
  have e2 : litE ⟨1, -9223372036854775807, ⟨#[]⟩⟩ = .mk 4 1 zV ⟨#[]⟩ [litX ⟨1, 9223372036854775807, ⟨#[]⟩⟩] := by unfold litE; rw [if_neg (by decide), if_neg (by decide)]; rfl
  rw [e2] at c
  obtain ⟨k, n, s⟩ := v
  dsimp only at h0 h1
  subst h1
  have hk : k = 1 := by omega
  subst hk
  refine Is.of TP Try.func123 rfl rfl (Nat.le_of_ble_eq_true rfl) fun st => Pw.of TP [] ?_
  conv => whnf
  intro id hid
  conv => whnf
  have hb : res (- -9223372036854775808) = (0, 10) := by decide
  repeat' (first | (refine ⟨fun h => ?_, fun h => ?_⟩ <;> conv => whnf) | (apply Exists.intro; apply And.intro; (first | ((with_reducible (repeat (refine Eq.trans (upd_ne _ ?_) ?_; (first | assumption | (apply Ne.symm; assumption))))); first | exact upd_same _ _ _ | assumption) | ((repeat (refine Eq.trans (upd_ne _ ?_) ?_; (first | assumption | (apply Ne.symm; assumption)))); first | exact upd_same _ _ _ | assumption)); refine ⟨Nat.le_of_ble_eq_true rfl, ?_⟩; conv => whnf) | (apply Exists.intro; apply And.intro; (first | ((with_reducible (repeat (refine Eq.trans (upd_ne _ ?_) ?_; (first | assumption | (apply Ne.symm; assumption))))); first | exact upd_same _ _ _ | assumption) | ((repeat (refine Eq.trans (upd_ne _ ?_) ?_; (first | assumption | (apply Ne.symm; assumption)))); first | exact upd_same _ _ _ | assumption)); conv => whnf) | (refine Is.callN (back_is (a := -9223372036854775808) (by unfold in64; decide)) fun x y e => ?_; rw [hb] at e; cases e; conv => whnf) | (refine c.call ?_; conv => whnf))
  all_goals first | (exfalso; dsimp only at *; omega) | skip
  refine Pw.drwC TP mixed [3, 4, 5] (by kernel_rfl) ?_; conv => whnf
  refine Is.draw c1 ?_
  conv => whnf
  intro id2 hid2
  conv => whnf
  have hne : id ≠ id2 := fresh_ne hid2 (upd_same _ _ _)
  have hn2 : st id2 = none := Le.none (by (first | (with_reducible (iterate 24 (try any_goals (first | exact Le.refl _ | assumption | apply Le.up2))); done) | (iterate 24 (try any_goals (first | exact Le.refl _ | assumption | apply Le.up2))))) hid2
  clear hid2
  (apply Exists.intro; apply And.intro; (first | ((with_reducible (repeat (refine Eq.trans (upd_ne _ ?_) ?_; (first | assumption | (apply Ne.symm; assumption))))); first | exact upd_same _ _ _ | assumption) | ((repeat (refine Eq.trans (upd_ne _ ?_) ?_; (first | assumption | (apply Ne.symm; assumption)))); first | exact upd_same _ _ _ | assumption)); refine ⟨Nat.le_of_ble_eq_true rfl, ?_⟩; conv => whnf)
  (apply Exists.intro; apply And.intro; (first | ((with_reducible (repeat (refine Eq.trans (upd_ne _ ?_) ?_; (first | assumption | (apply Ne.symm; assumption))))); first | exact upd_same _ _ _ | assumption) | ((repeat (refine Eq.trans (upd_ne _ ?_) ?_; (first | assumption | (apply Ne.symm; assumption)))); first | exact upd_same _ _ _ | assumption)); conv => whnf)
  refine ⟨only id2, st, .g (eE (.mk 5 10 zV ⟨#[]⟩ [.mk 4 1 zV ⟨#[]⟩ [litX ⟨1, 9223372036854775807, ⟨#[]⟩⟩], litX ⟨1, 1, ⟨#[]⟩⟩])), FV.gl (.cons (.refl _) (.cons (.refl _) (.cons (.refl _) (.cons (.refl _) (.cons (.refl _) (.cons (.refl _) (.cons
    (Fz.arr0 (sz := 7) (rows := [eE (.mk 4 1 zV ⟨#[]⟩ [litX ⟨1, 9223372036854775807, ⟨#[]⟩⟩]), eE (litX ⟨1, 1, ⟨#[]⟩⟩)]) (by simp [only]) (by (first | ((with_reducible (repeat (refine Eq.trans (upd_ne _ ?_) ?_; (first | assumption | (apply Ne.symm; assumption))))); first | exact upd_same _ _ _ | assumption) | ((repeat (refine Eq.trans (upd_ne _ ?_) ?_; (first | assumption | (apply Ne.symm; assumption)))); first | exact upd_same _ _ _ | assumption))) (fun r hr => ?_)) .nil))))))), fun i o ho => ⟨(by (first | (with_reducible (iterate 24 (try any_goals (first | exact Le.refl _ | assumption | apply Le.up2))); done) | (iterate 24 (try any_goals (first | exact Le.refl _ | assumption | apply Le.up2)))) : Le st _) i o ho, ?_⟩, rfl, rfl⟩
  · rcases List.mem_cons.1 hr with rfl | hr
    · rfl
    · rcases List.mem_cons.1 hr with rfl | hr
      · rfl
      · cases hr
  · have : i ≠ id2 := fun e => by subst e; rw [hn2] at ho; cases ho
    simp [only, this]
theorem lit_is (v : Val) (hv : in64 v.n) : Is Try.prog 123 [.g (eV v)] (.g (eE (litE v))) := by
  by_cases h0 : v.k ≠ 1 ∨ 0 ≤ v.n
  · have := lit0_is v h0
    rw [show litE v = litX v by unfold litE; rw [if_pos h0]]
    exact this
  · by_cases h1 : v.n = -9223372036854775808
    · exact lit2_is v h0 h1
    · exact lit1_is v h0 h1 hv
def eX (v : Val) : List AC := [.v (.int .i64 1), .v (.int .i64 0), .v (.int .i64 v.k), .v (.int .i64 v.n), .v (.string v.s), .v (.string ⟨#[]⟩), .v (.slice none 0 0)]
theorem fzX {D : Nat → Bool} {st : Sto} (v : Val) : F2 (Fz D st) (eX v) (eE (litX v)) := .cons (.refl _) (.cons (.refl _) (.cons (.refl _) (.cons (.refl _) (.cons (.refl _) (.cons (.refl _) (.cons (.nil 7) .nil))))))
theorem fzU {D : Nat → Bool} {st : Sto} (w : Val) : F2 (Fz D st) [.v (.int .i64 4), .v (.int .i64 1), .v (.int .i64 0), .v (.int .i64 0), .v (.string ⟨#[]⟩), .v (.string ⟨#[]⟩), .sl 7 [eX w]] (eE (.mk 4 1 zV ⟨#[]⟩ [litX w])) :=
  .cons (.refl _) (.cons (.refl _) (.cons (.refl _) (.cons (.refl _) (.cons (.refl _) (.cons (.refl _) (.cons (Fz.sl2 (.cons (fzX w) .nil) (fun r hr => by
    rcases List.mem_cons.1 hr with rfl | hr
    · rfl
    · cases hr)) .nil))))))
theorem rlit_is (v : Val) (hv : in64 v.n) : Is Try.prog 124 [.g (eV v)] (.g (eE (litE v))) := by
  by_cases h0 : v.k ≠ 1 ∨ 0 ≤ v.n
  · rw [show litE v = litX v by unfold litE; rw [if_pos h0]]
    refine Is.of TP Try.func124 rfl rfl (Nat.le_of_ble_eq_true rfl) fun st => Pw.of TP [] ?_
    conv => whnf
    intro id hid
    conv => whnf
    repeat' (first | (refine ⟨fun h => ?_, fun h => ?_⟩ <;> conv => whnf) | (apply Exists.intro; apply And.intro; (first | ((with_reducible (repeat (refine Eq.trans (upd_ne _ ?_) ?_; (first | assumption | (apply Ne.symm; assumption))))); first | exact upd_same _ _ _ | assumption) | ((repeat (refine Eq.trans (upd_ne _ ?_) ?_; (first | assumption | (apply Ne.symm; assumption)))); first | exact upd_same _ _ _ | assumption)); refine ⟨Nat.le_of_ble_eq_true rfl, ?_⟩; conv => whnf) | (apply Exists.intro; apply And.intro; (first | ((with_reducible (repeat (refine Eq.trans (upd_ne _ ?_) ?_; (first | assumption | (apply Ne.symm; assumption))))); first | exact upd_same _ _ _ | assumption) | ((repeat (refine Eq.trans (upd_ne _ ?_) ?_; (first | assumption | (apply Ne.symm; assumption)))); first | exact upd_same _ _ _ | assumption)); conv => whnf))
    all_goals first | exact Fin.lit (t := .v (.bool true)) rfl (by (first | (with_reducible (iterate 24 (try any_goals (first | exact Le.refl _ | assumption | apply Le.up2))); done) | (iterate 24 (try any_goals (first | exact Le.refl _ | assumption | apply Le.up2))))) | (exfalso; omega)
  · by_cases h1 : v.n = -9223372036854775808
    · have e : litE v = .mk 5 10 zV ⟨#[]⟩ [.mk 4 1 zV ⟨#[]⟩ [litX ⟨1, 9223372036854775807, ⟨#[]⟩⟩], litX ⟨1, 1, ⟨#[]⟩⟩] := by unfold litE; rw [if_neg h0, if_pos h1]
      rw [e]
      obtain ⟨k, n, s⟩ := v
      dsimp only at h0 h1
      subst h1
      have hk : k = 1 := by omega
      subst hk
      refine Is.of TP Try.func124 rfl rfl (Nat.le_of_ble_eq_true rfl) fun st => Pw.of TP [] ?_
      conv => whnf
      intro id hid
      conv => whnf
      repeat' (first | (refine ⟨fun h => ?_, fun h => ?_⟩ <;> conv => whnf) | (apply Exists.intro; apply And.intro; (first | ((with_reducible (repeat (refine Eq.trans (upd_ne _ ?_) ?_; (first | assumption | (apply Ne.symm; assumption))))); first | exact upd_same _ _ _ | assumption) | ((repeat (refine Eq.trans (upd_ne _ ?_) ?_; (first | assumption | (apply Ne.symm; assumption)))); first | exact upd_same _ _ _ | assumption)); refine ⟨Nat.le_of_ble_eq_true rfl, ?_⟩; conv => whnf) | (apply Exists.intro; apply And.intro; (first | ((with_reducible (repeat (refine Eq.trans (upd_ne _ ?_) ?_; (first | assumption | (apply Ne.symm; assumption))))); first | exact upd_same _ _ _ | assumption) | ((repeat (refine Eq.trans (upd_ne _ ?_) ?_; (first | assumption | (apply Ne.symm; assumption)))); first | exact upd_same _ _ _ | assumption)); conv => whnf))
      all_goals first | (exfalso; dsimp only at *; omega) | skip
      refine ⟨fun _ => false, st, .g (eE (.mk 5 10 zV ⟨#[]⟩ [.mk 4 1 zV ⟨#[]⟩ [litX ⟨1, 9223372036854775807, ⟨#[]⟩⟩], litX ⟨1, 1, ⟨#[]⟩⟩])), FV.gl (.cons (.refl _) (.cons (.refl _) (.cons (.refl _) (.cons (.refl _) (.cons (.refl _) (.cons (.refl _) (.cons (Fz.sl2 (.cons (fzU ⟨1, 9223372036854775807, ⟨#[]⟩⟩) (.cons (fzX ⟨1, 1, ⟨#[]⟩⟩) .nil)) ?_) .nil))))))), fun i o ho => ⟨(by (first | (with_reducible (iterate 24 (try any_goals (first | exact Le.refl _ | assumption | apply Le.up2))); done) | (iterate 24 (try any_goals (first | exact Le.refl _ | assumption | apply Le.up2)))) : Le st _) i o ho, rfl⟩, rfl, rfl⟩
      intro r hr
      rcases List.mem_cons.1 hr with rfl | hr
      · rfl
      · rcases List.mem_cons.1 hr with rfl | hr
        · rfl
        · cases hr
    · have e : litE v = .mk 4 1 zV ⟨#[]⟩ [litX ⟨1, -v.n, ⟨#[]⟩⟩] := by unfold litE; rw [if_neg h0, if_neg h1]
      rw [e]
      refine Is.of TP Try.func124 rfl rfl (Nat.le_of_ble_eq_true rfl) fun st => Pw.of TP [] ?_
      conv => whnf
      intro id hid
      conv => whnf
      have hw : IntKind.i64.wrap (0 - v.n) = -v.n := by rw [Int.zero_sub]; exact wid (by unfold in64 at *; omega)
      repeat' (first | (refine ⟨fun h => ?_, fun h => ?_⟩ <;> conv => whnf) | (apply Exists.intro; apply And.intro; (first | ((with_reducible (repeat (refine Eq.trans (upd_ne _ ?_) ?_; (first | assumption | (apply Ne.symm; assumption))))); first | exact upd_same _ _ _ | assumption) | ((repeat (refine Eq.trans (upd_ne _ ?_) ?_; (first | assumption | (apply Ne.symm; assumption)))); first | exact upd_same _ _ _ | assumption)); refine ⟨Nat.le_of_ble_eq_true rfl, ?_⟩; conv => whnf) | (apply Exists.intro; apply And.intro; (first | ((with_reducible (repeat (refine Eq.trans (upd_ne _ ?_) ?_; (first | assumption | (apply Ne.symm; assumption))))); first | exact upd_same _ _ _ | assumption) | ((repeat (refine Eq.trans (upd_ne _ ?_) ?_; (first | assumption | (apply Ne.symm; assumption)))); first | exact upd_same _ _ _ | assumption)); conv => whnf))
      all_goals first | (exfalso; omega) | skip
      rw [← hw]
      exact ⟨fun _ => false, st, .g (eE (.mk 4 1 zV ⟨#[]⟩ [litX ⟨1, IntKind.i64.wrap (0 - v.n), ⟨#[]⟩⟩])), FV.gl (fzU ⟨1, IntKind.i64.wrap (0 - v.n), ⟨#[]⟩⟩), fun i o ho => ⟨(by (first | (with_reducible (iterate 24 (try any_goals (first | exact Le.refl _ | assumption | apply Le.up2))); done) | (iterate 24 (try any_goals (first | exact Le.refl _ | assumption | apply Le.up2)))) : Le st _) i o ho, rfl⟩, rfl, rfl⟩
end Go.Proofs.Ytbmgenifdlgbmaa.D
namespace Go.Proofs.Ytbmgenifdlgbmaa.D
set_option linter.unusedVariables false
set_option linter.unusedSimpArgs false
open Go Go.Proofs.Ytbmgenifdlgbmaa.D.Pm
set_option maxRecDepth 4000
def pin (n : Nat) (e : Ex) : Bool := match e with | .mk k op _ _ _ => !decide (k = 3) || decide (1 ≤ op ∧ op ≤ n)
def pat (ps : List Val) (op : Int) : Val := ps.getD (op - 1).toNat zV
mutual
def filledE (ps : List Val) : Ex → Ex
  | .mk k op v nm kids => if k = 3 then litE (pat ps op) else .mk k op v nm (filledEs ps kids)
def filledEs (ps : List Val) : List Ex → List Ex
  | [] => []
  | e :: l => filledE ps e :: filledEs ps l
end
mutual
def filledOk (ps : List Val) : Ex → Bool
  | .mk k op v nm kids => if k = 3 then vright (pat ps op) else filledOks ps kids
def filledOks (ps : List Val) : List Ex → Bool
  | [] => true
  | e :: l => filledOk ps e && filledOks ps l
end
theorem filledEs_map {ps : List Val} : ∀ l, filledEs ps l = l.map (filledE ps)
  | [] => rfl
  | e :: l => by rw [filledEs, List.map_cons, filledEs_map l]
theorem filledOks_all {ps : List Val} : ∀ l, filledOks ps l = l.all (filledOk ps)
  | [] => rfl
  | e :: l => by rw [filledOks, List.all_cons, filledOks_all l]
theorem Grow.upbx {st0 st : Sto} {sz : Nat} {a : AC} {rows : List (List AC)} (hg : Grow st0 sz st a rows) {id : Nat} {cs : List AC} {o : Ob} (h : st id = some (.bx cs)) (h0 : st0 id = none) : Grow st0 sz (upd st id o) a rows := by
  refine ⟨hg.1.up2 h0, ?_⟩
  rcases hg.2 with ⟨h1, h2⟩ | ⟨i, h1, h2, h3⟩
  · exact .inl ⟨h1, h2⟩
  · have : i ≠ id := fun e => by subst e; rw [h] at h2; cases h2
    exact .inr ⟨i, h1, by rw [upd_ne _ this]; exact h2, h3⟩
theorem Kept.bx {a : AC} {st st' : Sto} (hk : Kept a st st') {st0 : Sto} {sz : Nat} {rows : List (List AC)} (hg : Grow st0 sz st a rows) {id : Nat} {cs : List AC} (h : st id = some (.bx cs)) : st' id = some (.bx cs) :=
  hk id _ h fun n e => by
    subst e
    rcases hg.2 with ⟨h1, _⟩ | ⟨i, h1, h2, _⟩
    · cases h1
    · cases h1; rw [h] at h2; cases h2
def zE : TI := ⟨.st [(0, 3), (1, 3), (2, 23), (5, 9), (6, 24)], 7, 88, [.int .i64 0, .int .i64 0, .int .i64 0, .int .i64 0, .string ⟨#[]⟩, .string ⟨#[]⟩, .slice none 0 0]⟩
def exC (k op : Int) (v : Val) (nm : ByteArray) (a : AC) : List AC := [.v (.int .i64 k), .v (.int .i64 op), .v (.int .i64 v.k), .v (.int .i64 v.n), .v (.string v.s), .v (.string nm), a]
def zeroC : List AC := exC 0 0 zV ⟨#[]⟩ (.v (.slice none 0 0))
theorem filled_is {ps : List Val} (hp : ∀ v ∈ ps, okV v) (hl : ps.length ≤ Big) : ∀ e, okE e → nodes e ≤ Lim → allE (pin ps.length) e = true → Is Try.prog 93 [.g (eE e), .c (.sl 3 (ps.map eV))] (.t [.g (eE (filledE ps e)), vB (filledOk ps e)]) := by
  refine Ex.ind fun k op v nm kids ih ok hn ha => ?_
  rw [nodes] at hn
  unfold Lim at hn
  rw [allE, Bool.and_eq_true, allEs_all, List.all_eq_true] at ha
  obtain ⟨ha1, ha2⟩ := ha
  refine Is.of TP Try.func93 rfl rfl (Nat.le_of_ble_eq_true rfl) fun st => Pw.of TP [1000006] ?_
  conv => whnf
  intro id4 h4
  conv => whnf
  refine ⟨fun h => ?_, fun h => ?_⟩ <;> conv => whnf
  · refine Pw.drwC TP mixed [14, 15] (by kernel_rfl) ?_; conv => whnf
    have hop : 1 ≤ op ∧ op ≤ ps.length := by simpa [pin, h] using ha1
    have hw : IntKind.i64.wrap (op - 1) = op - 1 := wid (by unfold in64; unfold Big at hl; omega)
    obtain ⟨m, hm⟩ : ∃ m : Nat, op - 1 = m := ⟨(op - 1).toNat, by omega⟩
    have hlt : m < ps.length := by omega
    have hpat : pat ps op = ps[m] := by unfold pat; rw [hm, Int.toNat_natCast, List.getD_eq_getElem?_getD, List.getElem?_eq_getElem hlt]; rfl
    have hv := hp _ (List.getElem_mem hlt)
    rw [hw, hm]
    refine ixm hlt ?_
    conv => whnf
    have hlit := lit_is _ hv.1
    have e1 : filledE ps (.mk k op v nm kids) = litE ps[m] := by rw [filledE, if_pos h, hpat]
    have e2 : filledOk ps (.mk k op v nm kids) = vright ps[m] := by rw [filledOk, if_pos h, hpat]
    rw [e1, e2]
    generalize litE ps[m] = le at hlit
    cases le
    refine Is.draw hlit ?_
    conv => whnf
    rw [hw, hm]
    refine ixm hlt ?_
    conv => whnf
    refine Is.drawB (vright_is _ hv.2) fun b hb => ?_
    conv => whnf
    (apply Exists.intro; apply And.intro; (first | ((with_reducible (repeat (refine Eq.trans (upd_ne _ ?_) ?_; (first | assumption | (apply Ne.symm; assumption))))); first | exact upd_same _ _ _ | assumption) | ((repeat (refine Eq.trans (upd_ne _ ?_) ?_; (first | assumption | (apply Ne.symm; assumption)))); first | exact upd_same _ _ _ | assumption)); refine ⟨Nat.le_of_ble_eq_true rfl, ?_⟩; conv => whnf)
    (apply Exists.intro; apply And.intro; (first | ((with_reducible (repeat (refine Eq.trans (upd_ne _ ?_) ?_; (first | assumption | (apply Ne.symm; assumption))))); first | exact upd_same _ _ _ | assumption) | ((repeat (refine Eq.trans (upd_ne _ ?_) ?_; (first | assumption | (apply Ne.symm; assumption)))); first | exact upd_same _ _ _ | assumption)); conv => whnf)
    rw [hb]
    exact Fin.old rfl (by (first | (with_reducible (iterate 24 (try any_goals (first | exact Le.refl _ | assumption | apply Le.up2))); done) | (iterate 24 (try any_goals (first | exact Le.refl _ | assumption | apply Le.up2)))))
  · intro id6 h6
    conv => whnf
    have n46 : id4 ≠ id6 := fresh_ne h6 (upd_same _ _ _)
    have h6' : st id6 = none := Le.none (by (first | (with_reducible (iterate 24 (try any_goals (first | exact Le.refl _ | assumption | apply Le.up2))); done) | (iterate 24 (try any_goals (first | exact Le.refl _ | assumption | apply Le.up2))))) h6
    clear h6
    (apply Exists.intro; apply And.intro; (first | ((with_reducible (repeat (refine Eq.trans (upd_ne _ ?_) ?_; (first | assumption | (apply Ne.symm; assumption))))); first | exact upd_same _ _ _ | assumption) | ((repeat (refine Eq.trans (upd_ne _ ?_) ?_; (first | assumption | (apply Ne.symm; assumption)))); first | exact upd_same _ _ _ | assumption)); refine ⟨Nat.le_of_ble_eq_true rfl, ?_⟩; conv => whnf)
    (apply Exists.intro; apply And.intro; (first | ((with_reducible (repeat (refine Eq.trans (upd_ne _ ?_) ?_; (first | assumption | (apply Ne.symm; assumption))))); first | exact upd_same _ _ _ | assumption) | ((repeat (refine Eq.trans (upd_ne _ ?_) ?_; (first | assumption | (apply Ne.symm; assumption)))); first | exact upd_same _ _ _ | assumption)); refine ⟨Nat.le_of_ble_eq_true rfl, ?_⟩; conv => whnf)
    have e1 : filledE ps (.mk k op v nm kids) = .mk k op v nm (filledEs ps kids) := by rw [filledE, if_neg h]
    have e2 : filledOk ps (.mk k op v nm kids) = filledOks ps kids := by rw [filledOk, if_neg h]
    rw [e1, e2]
    clear e1 e2
    refine Pw.gen fun S hS => ?_
    have a4 : S id4 = some (.bx zeroC) := by rw [hS]; (first | ((with_reducible (repeat (refine Eq.trans (upd_ne _ ?_) ?_; (first | assumption | (apply Ne.symm; assumption))))); first | exact upd_same _ _ _ | assumption) | ((repeat (refine Eq.trans (upd_ne _ ?_) ?_; (first | assumption | (apply Ne.symm; assumption)))); first | exact upd_same _ _ _ | assumption))
    have a6 : S id6 = some (.bx (exC k op v nm (.v (.slice none 0 0)))) := by rw [hS]; (first | ((with_reducible (repeat (refine Eq.trans (upd_ne _ ?_) ?_; (first | assumption | (apply Ne.symm; assumption))))); first | exact upd_same _ _ _ | assumption) | ((repeat (refine Eq.trans (upd_ne _ ?_) ?_; (first | assumption | (apply Ne.symm; assumption)))); first | exact upd_same _ _ _ | assumption))
    have le : Le st S := by rw [hS]; (first | (with_reducible (iterate 24 (try any_goals (first | exact Le.refl _ | assumption | apply Le.up2))); done) | (iterate 24 (try any_goals (first | exact Le.refl _ | assumption | apply Le.up2))))
    clear hS
    refine Pw.rngS (τ := AC × Sto) 34 kids.length ok.2.2.1 [1, 2, 4, 6, 32, 33] (fun i _ => [(7, vB ((kids.take i).all (filledOk ps)))]) (fun _ y => y.2) (fun i y => Grow st 7 y.2 y.1 (eEs ((kids.take i).map (filledE ps))) ∧ y.2 id4 = some (.bx zeroC) ∧ y.2 id6 = some (.bx (exC k op v nm y.1))) (.v (.slice none 0 0), S) rfl ⟨rfl, trivial⟩ (.refl _) ⟨.nil le, a4, a6⟩ fun i y hi hx => Pw.of TP [] ?_
    clear a4 a6 le S
    obtain ⟨a, s⟩ := y
    obtain ⟨hg, a4, a6⟩ := hx
    simp only at hg a4 a6 ⊢
    conv => whnf
    refine ⟨fun h => ?_, fun h => ?_⟩ <;> conv => whnf
    · have hi' := ltE ‹_›
      refine ixE hi' ?_
      have hm := ih kids[i] (List.getElem_mem hi') (okEs_all ok.2.2.2 _ (List.getElem_mem hi')) (Nat.le_trans (nodes_mem (List.getElem_mem hi')) (by unfold Lim; omega)) (ha2 _ (List.getElem_mem hi'))
      have es : (kids.take (i + 1)).map (filledE ps) = (kids.take i).map (filledE ps) ++ [filledE ps kids[i]] := by rw [List.take_succ_eq_append_getElem hi', List.map_append]; rfl
      have eo : (kids.take (i + 1)).all (filledOk ps) = ((kids.take i).all (filledOk ps) && filledOk ps kids[i]) := by rw [List.take_succ_eq_append_getElem hi', List.all_append]; simp
      generalize kids[i] = e at hm es eo ⊢
      generalize filledE ps e = x at hm es
      generalize filledOk ps e = b at hm eo
      cases e
      conv => whnf
      refine hm.call ?_
      cases x
      conv => whnf
      (apply Exists.intro; apply And.intro; (first | ((with_reducible (repeat (refine Eq.trans (upd_ne _ ?_) ?_; (first | assumption | (apply Ne.symm; assumption))))); first | exact upd_same _ _ _ | assumption) | ((repeat (refine Eq.trans (upd_ne _ ?_) ?_; (first | assumption | (apply Ne.symm; assumption)))); first | exact upd_same _ _ _ | assumption)); conv => whnf)
      have e7 := eEs_len ((kids.take i).map (filledE ps))
      rw [List.length_map, List.length_take] at e7
      have hnk := parts_len (.mk k op v nm kids)
      have hlk : kids.length ≤ nodesL kids := by
        have : ∀ l : List Ex, l.length ≤ nodesL l := fun l => by
          induction l with
          | nil => exact Nat.le_refl _
          | cons e l ih => rw [nodesL, List.length_cons]; have : 1 ≤ nodes e := by cases e; rw [nodes]; omega
                           omega
        exact this kids
      refine Grow.app (z := zE) hg (by rw [e7]; unfold maxLen; simp; omega) (by rw [e7]; simp [zE]; omega) fun a' s' hg' hk' => ?_
      conv => whnf
      have a6' := Kept.bx hk' hg a6
      have a4' := Kept.bx hk' hg a4
      (apply Exists.intro; apply And.intro; (first | ((with_reducible (repeat (refine Eq.trans (upd_ne _ ?_) ?_; (first | assumption | (apply Ne.symm; assumption))))); first | exact upd_same _ _ _ | assumption) | ((repeat (refine Eq.trans (upd_ne _ ?_) ?_; (first | assumption | (apply Ne.symm; assumption)))); first | exact upd_same _ _ _ | assumption)); refine ⟨Nat.le_of_ble_eq_true rfl, ?_⟩; conv => whnf)
      cases hB : (kids.take i).all (filledOk ps) <;> rw [hB] at eo <;> cases b <;> conv => whnf
      all_goals exact ⟨hi', rfl, ⟨rfl, rfl, rfl, rfl, rfl, rfl, trivial⟩, (a', upd s' id6 (.bx (exC k op v nm a'))), ⟨by rw [eo]; rfl, trivial⟩, .refl _, by rw [es, eEs_app]; exact Grow.upbx hg' a6' h6', (upd_ne _ n46).trans a4', upd_same _ _ _⟩
    · obtain rfl := nltE ‹_› hi
      rw [List.take_length] at hg ⊢
      rw [← filledEs_map] at hg
      rw [← filledOks_all]
      repeat' (first | (apply Exists.intro; apply And.intro; (first | ((with_reducible (repeat (refine Eq.trans (upd_ne _ ?_) ?_; (first | assumption | (apply Ne.symm; assumption))))); first | exact upd_same _ _ _ | assumption) | ((repeat (refine Eq.trans (upd_ne _ ?_) ?_; (first | assumption | (apply Ne.symm; assumption)))); first | exact upd_same _ _ _ | assumption)); refine ⟨Nat.le_of_ble_eq_true rfl, ?_⟩; conv => whnf) | (apply Exists.intro; apply And.intro; (first | ((with_reducible (repeat (refine Eq.trans (upd_ne _ ?_) ?_; (first | assumption | (apply Ne.symm; assumption))))); first | exact upd_same _ _ _ | assumption) | ((repeat (refine Eq.trans (upd_ne _ ?_) ?_; (first | assumption | (apply Ne.symm; assumption)))); first | exact upd_same _ _ _ | assumption)); conv => whnf))
      obtain ⟨D, q1, q2⟩ := (Grow.upbx hg a4 h4 (o := .bx (exC k op v nm a))).fv (eEs_row _)
      refine ⟨D, st, .t [.g (eE (.mk k op v nm (filledEs ps kids))), vB (filledOks ps kids)], .t _ _ rfl (fun j c c' w1 w2 => ?_), fun i o ho => ⟨(hg.1.up2 h4) i o ho, ?_⟩, rfl, rfl⟩
      · match j, w1, w2 with
        | 0, w1, w2 => cases w1; cases w2; exact FV.gl (.cons (.refl _) (.cons (.refl _) (.cons (.refl _) (.cons (.refl _) (.cons (.refl _) (.cons (.refl _) (.cons (q1 D fun _ h => h) .nil)))))))
        | 1, w1, w2 => cases w1; cases w2; exact .refl _
        | j + 2, w1, w2 => simp at w2
      · cases hd : D i with
        | false => rfl
        | true => rw [q2 i hd] at ho; cases ho
end Go.Proofs.Ytbmgenifdlgbmaa.D
namespace Go.Proofs.Ytbmgenifdlgbmaa.D
set_option linter.unusedVariables false
set_option linter.unusedSimpArgs false
open Go Go.Proofs.Ytbmgenifdlgbmaa.D.Pm
set_option maxRecDepth 4000
theorem rfilled_is {ps : List Val} (hp : ∀ v ∈ ps, okV v) (hl : ps.length ≤ Big) : ∀ e, okE e → nodes e ≤ Lim → allE (pin ps.length) e = true → Is Try.prog 96 [.g (eE e), .c (.sl 3 (ps.map eV))] (.g (eE (filledE ps e))) := by
  refine Ex.ind fun k op v nm kids ih ok hn ha => ?_
  rw [nodes] at hn
  unfold Lim at hn
  rw [allE, Bool.and_eq_true, allEs_all, List.all_eq_true] at ha
  obtain ⟨ha1, ha2⟩ := ha
  refine Is.of TP Try.func96 rfl rfl (Nat.le_of_ble_eq_true rfl) fun st => Pw.of TP [1000005] ?_
  conv => whnf
  intro id4 h4
  conv => whnf
  refine ⟨fun h => ?_, fun h => ?_⟩ <;> conv => whnf
  · have hop : 1 ≤ op ∧ op ≤ ps.length := by simpa [pin, h] using ha1
    have hw : IntKind.i64.wrap (op - 1) = op - 1 := wid (by unfold in64; unfold Big at hl; omega)
    obtain ⟨m, hm⟩ : ∃ m : Nat, op - 1 = m := ⟨(op - 1).toNat, by omega⟩
    have hlt : m < ps.length := by omega
    have hpat : pat ps op = ps[m] := by unfold pat; rw [hm, Int.toNat_natCast, List.getD_eq_getElem?_getD, List.getElem?_eq_getElem hlt]; rfl
    have hv := hp _ (List.getElem_mem hlt)
    rw [hw, hm]
    refine ixm hlt ?_
    conv => whnf
    have hlit := rlit_is _ hv.1
    have e1 : filledE ps (.mk k op v nm kids) = litE ps[m] := by rw [filledE, if_pos h, hpat]
    rw [e1]
    generalize litE ps[m] = le at hlit
    cases le
    refine hlit.call ?_
    conv => whnf
    (apply Exists.intro; apply And.intro; (first | ((with_reducible (repeat (refine Eq.trans (upd_ne _ ?_) ?_; (first | assumption | (apply Ne.symm; assumption))))); first | exact upd_same _ _ _ | assumption) | ((repeat (refine Eq.trans (upd_ne _ ?_) ?_; (first | assumption | (apply Ne.symm; assumption)))); first | exact upd_same _ _ _ | assumption)); refine ⟨Nat.le_of_ble_eq_true rfl, ?_⟩; conv => whnf)
    (apply Exists.intro; apply And.intro; (first | ((with_reducible (repeat (refine Eq.trans (upd_ne _ ?_) ?_; (first | assumption | (apply Ne.symm; assumption))))); first | exact upd_same _ _ _ | assumption) | ((repeat (refine Eq.trans (upd_ne _ ?_) ?_; (first | assumption | (apply Ne.symm; assumption)))); first | exact upd_same _ _ _ | assumption)); conv => whnf)
    exact Fin.old rfl (by (first | (with_reducible (iterate 24 (try any_goals (first | exact Le.refl _ | assumption | apply Le.up2))); done) | (iterate 24 (try any_goals (first | exact Le.refl _ | assumption | apply Le.up2)))))
  · intro id6 h6
    conv => whnf
    have n46 : id4 ≠ id6 := fresh_ne h6 (upd_same _ _ _)
    have h6' : st id6 = none := Le.none (by (first | (with_reducible (iterate 24 (try any_goals (first | exact Le.refl _ | assumption | apply Le.up2))); done) | (iterate 24 (try any_goals (first | exact Le.refl _ | assumption | apply Le.up2))))) h6
    clear h6
    (apply Exists.intro; apply And.intro; (first | ((with_reducible (repeat (refine Eq.trans (upd_ne _ ?_) ?_; (first | assumption | (apply Ne.symm; assumption))))); first | exact upd_same _ _ _ | assumption) | ((repeat (refine Eq.trans (upd_ne _ ?_) ?_; (first | assumption | (apply Ne.symm; assumption)))); first | exact upd_same _ _ _ | assumption)); refine ⟨Nat.le_of_ble_eq_true rfl, ?_⟩; conv => whnf)
    have e1 : filledE ps (.mk k op v nm kids) = .mk k op v nm (filledEs ps kids) := by rw [filledE, if_neg h]
    rw [e1]
    clear e1
    refine Pw.gen fun S hS => ?_
    have a4 : S id4 = some (.bx zeroC) := by rw [hS]; (first | ((with_reducible (repeat (refine Eq.trans (upd_ne _ ?_) ?_; (first | assumption | (apply Ne.symm; assumption))))); first | exact upd_same _ _ _ | assumption) | ((repeat (refine Eq.trans (upd_ne _ ?_) ?_; (first | assumption | (apply Ne.symm; assumption)))); first | exact upd_same _ _ _ | assumption))
    have a6 : S id6 = some (.bx (exC k op v nm (.v (.slice none 0 0)))) := by rw [hS]; (first | ((with_reducible (repeat (refine Eq.trans (upd_ne _ ?_) ?_; (first | assumption | (apply Ne.symm; assumption))))); first | exact upd_same _ _ _ | assumption) | ((repeat (refine Eq.trans (upd_ne _ ?_) ?_; (first | assumption | (apply Ne.symm; assumption)))); first | exact upd_same _ _ _ | assumption))
    have le : Le st S := by rw [hS]; (first | (with_reducible (iterate 24 (try any_goals (first | exact Le.refl _ | assumption | apply Le.up2))); done) | (iterate 24 (try any_goals (first | exact Le.refl _ | assumption | apply Le.up2))))
    clear hS
    refine Pw.rngS (τ := AC × Sto) 6 kids.length ok.2.2.1 [1, 2, 4, 5] (fun i _ => []) (fun _ y => y.2) (fun i y => Grow st 7 y.2 y.1 (eEs ((kids.take i).map (filledE ps))) ∧ y.2 id4 = some (.bx zeroC) ∧ y.2 id6 = some (.bx (exC k op v nm y.1))) (.v (.slice none 0 0), S) rfl trivial (.refl _) ⟨.nil le, a4, a6⟩ fun i y hi hx => Pw.of TP [] ?_
    clear a4 a6 le S
    obtain ⟨a, s⟩ := y
    obtain ⟨hg, a4, a6⟩ := hx
    simp only at hg a4 a6 ⊢
    conv => whnf
    refine ⟨fun h => ?_, fun h => ?_⟩ <;> conv => whnf
    · have hi' := ltE ‹_›
      have hm := ih kids[i] (List.getElem_mem hi') (okEs_all ok.2.2.2 _ (List.getElem_mem hi')) (Nat.le_trans (nodes_mem (List.getElem_mem hi')) (by unfold Lim; omega)) (ha2 _ (List.getElem_mem hi'))
      have es : (kids.take (i + 1)).map (filledE ps) = (kids.take i).map (filledE ps) ++ [filledE ps kids[i]] := by rw [List.take_succ_eq_append_getElem hi', List.map_append]; rfl
      have key : ∀ F : List AC → Prop, F (eE kids[i]) → 0 ≤ (i : Int) ∧ (i : Int) < ((eEs kids).length : Nat) ∧ ∃ r, (eEs kids)[(i : Int).toNat]? = some r ∧ F r := fun F hF => ixE hi' hF
      generalize kids[i] = e at hm es key
      generalize filledE ps e = x at hm es
      refine Pw.drwQ TP mixed [9, 10, 11, 12] 10 [1] (by kernel_rfl) ?_; conv => whnf
      refine ⟨_, a6, ?_⟩
      conv => whnf
      refine key _ ?_
      cases e
      conv => whnf
      cases x
      refine Is.draw hm ?_
      conv => whnf
      refine ⟨.refl _, ?_⟩
      conv => whnf
      intro id8 h8
      conv => whnf
      refine ⟨.upd h8, ?_⟩
      conv => whnf
      refine ⟨_, upd_same _ _ _, Nat.le_of_ble_eq_true rfl, ?_⟩
      have e7 := eEs_len ((kids.take i).map (filledE ps))
      rw [List.length_map, List.length_take] at e7
      have hlk : kids.length ≤ nodesL kids := by
        have : ∀ l : List Ex, l.length ≤ nodesL l := fun l => by
          induction l with
          | nil => exact Nat.le_refl _
          | cons e l ih => rw [nodesL, List.length_cons]; have : 1 ≤ nodes e := by cases e; rw [nodes]; omega
                           omega
        exact this kids
      have h8' : st id8 = none := hg.1.none h8
      have n48 : id4 ≠ id8 := fresh_ne h8 a4
      have n68 : id6 ≠ id8 := fresh_ne h8 a6
      refine Grow.app (z := zE) (hg.up h8) (by rw [e7]; unfold maxLen; simp; omega) (by rw [e7]; simp [zE]; omega) fun a' s' hg' hk' => ?_
      conv => whnf
      have a6' := Kept.bx hk' (hg.up h8) ((upd_ne _ n68).trans a6)
      have a4' := Kept.bx hk' (hg.up h8) ((upd_ne _ n48).trans a4)
      (apply Exists.intro; apply And.intro; (first | ((with_reducible (repeat (refine Eq.trans (upd_ne _ ?_) ?_; (first | assumption | (apply Ne.symm; assumption))))); first | exact upd_same _ _ _ | assumption) | ((repeat (refine Eq.trans (upd_ne _ ?_) ?_; (first | assumption | (apply Ne.symm; assumption)))); first | exact upd_same _ _ _ | assumption)); refine ⟨Nat.le_of_ble_eq_true rfl, ?_⟩; conv => whnf)
      exact ⟨hi', rfl, ⟨rfl, rfl, rfl, rfl, trivial⟩, (a', upd s' id6 (.bx (exC k op v nm a'))), trivial, .refl _, by rw [es, eEs_app]; exact Grow.upbx hg' a6' h6', (upd_ne _ n46).trans a4', upd_same _ _ _⟩
    · obtain rfl := nltE ‹_› hi
      rw [List.take_length] at hg
      rw [← filledEs_map] at hg
      repeat' (first | (apply Exists.intro; apply And.intro; (first | ((with_reducible (repeat (refine Eq.trans (upd_ne _ ?_) ?_; (first | assumption | (apply Ne.symm; assumption))))); first | exact upd_same _ _ _ | assumption) | ((repeat (refine Eq.trans (upd_ne _ ?_) ?_; (first | assumption | (apply Ne.symm; assumption)))); first | exact upd_same _ _ _ | assumption)); refine ⟨Nat.le_of_ble_eq_true rfl, ?_⟩; conv => whnf) | (apply Exists.intro; apply And.intro; (first | ((with_reducible (repeat (refine Eq.trans (upd_ne _ ?_) ?_; (first | assumption | (apply Ne.symm; assumption))))); first | exact upd_same _ _ _ | assumption) | ((repeat (refine Eq.trans (upd_ne _ ?_) ?_; (first | assumption | (apply Ne.symm; assumption)))); first | exact upd_same _ _ _ | assumption)); conv => whnf))
      obtain ⟨D, q1, q2⟩ := (Grow.upbx hg a4 h4 (o := .bx (exC k op v nm a))).fv (eEs_row _)
      refine ⟨D, st, .g (eE (.mk k op v nm (filledEs ps kids))), FV.gl (.cons (.refl _) (.cons (.refl _) (.cons (.refl _) (.cons (.refl _) (.cons (.refl _) (.cons (.refl _) (.cons (q1 D fun _ h => h) .nil))))))), fun i o ho => ⟨(hg.1.up2 h4) i o ho, ?_⟩, rfl, rfl⟩
      cases hd : D i with
      | false => rfl
      | true => rw [q2 i hd] at ho; cases ho
end Go.Proofs.Ytbmgenifdlgbmaa.D
namespace Go.Proofs.Ytbmgenifdlgbmaa.D
set_option linter.unusedVariables false
set_option linter.unusedSimpArgs false
open Go Go.Proofs.Ytbmgenifdlgbmaa.D.Pm
set_option maxRecDepth 4000
theorem nodes_lit (v : Val) : nodes (litE v) ≤ 4 := by
  unfold litE litX
  repeat' split
  all_goals simp [nodes, nodesL]
theorem big0 : (⟨#[]⟩ : ByteArray).size < Big := by show (0 : Nat) < 4611686018427387903; omega
theorem okX {v : Val} (h : v.s.size < Big) : okE (litX v) := ⟨h, big0, Nat.zero_le _, trivial⟩
theorem okE_lit {v : Val} (h : v.s.size < Big) : okE (litE v) := by
  unfold litE
  have h2 : ([0, 1] : List Nat).length ≤ Big := by show 2 ≤ 4611686018427387903; omega
  have h1 : ([0] : List Nat).length ≤ Big := by show 1 ≤ 4611686018427387903; omega
  split
  · exact okX h
  · split
    · exact ⟨big0, big0, h2, ⟨big0, big0, h1, okX big0, trivial⟩, okX big0, trivial⟩
    · exact ⟨big0, big0, h1, okX big0, trivial⟩
theorem pat_of {ps : List Val} {p : Val → Prop} (h : ∀ v ∈ ps, p v) (h0 : p zV) (op : Int) : p (pat ps op) := by
  unfold pat
  rw [List.getD_eq_getElem?_getD]
  cases hq : ps[(op - 1).toNat]? with
  | none => exact h0
  | some v => exact h v (List.mem_of_getElem? hq)
theorem nodesL_map {f : Ex → Ex} {m : Nat} : ∀ l : List Ex, (∀ e ∈ l, nodes (f e) ≤ m * nodes e) → nodesL (l.map f) ≤ m * nodesL l
  | [], h => Nat.zero_le _
  | e :: l, h => by
    rw [List.map_cons, nodesL, nodesL, Nat.mul_add]
    have := h e (List.mem_cons_self ..)
    have := nodesL_map l fun x hx => h x (List.mem_cons_of_mem _ hx)
    omega
theorem nodes_filled (ps : List Val) : ∀ e, nodes (filledE ps e) ≤ 4 * nodes e := by
  refine Ex.ind fun k op v nm kids ih => ?_
  unfold filledE
  split
  · have := nodes_lit (pat ps op)
    rw [nodes]; omega
  · rw [nodes, nodes, filledEs_map]
    have := nodesL_map kids ih
    omega
theorem okEs_of : ∀ {l : List Ex}, (∀ e ∈ l, okE e) → okEs l
  | [], _ => trivial
  | e :: l, h => ⟨h e (List.mem_cons_self ..), okEs_of fun x hx => h x (List.mem_cons_of_mem _ hx)⟩
theorem okE_filled {ps : List Val} (hp : ∀ v ∈ ps, v.s.size < Big) : ∀ e, okE e → okE (filledE ps e) := by
  refine Ex.ind fun k op v nm kids ih ok => ?_
  unfold filledE
  split
  · exact okE_lit (pat_of (p := fun v => v.s.size < Big) hp (by decide) op)
  · refine ⟨ok.1, ok.2.1, by rw [filledEs_map, List.length_map]; exact ok.2.2.1, ?_⟩
    rw [filledEs_map]
    refine okEs_of fun e he => ?_
    obtain ⟨x, hx, rfl⟩ := List.mem_map.1 he
    exact ih x hx (okEs_all ok.2.2.2 x hx)
theorem allE_parts {p : Ex → Bool} : ∀ e, allE p e = (parts e).all p := by
  refine Ex.ind fun k op v nm kids ih => ?_
  rw [allE, parts, List.all_cons]
  congr 1
  rw [allEs_all]
  clear v
  induction kids with
  | nil => rfl
  | cons a l ih2 =>
    rw [List.all_cons, partsL, List.all_append, ih a (List.mem_cons_self ..), ih2 fun e he => ih e (List.mem_cons_of_mem _ he)]
theorem maxPar_le (l : List Ex) (x : Int) : x ≤ l.foldl maxPar x ∧ ∀ e ∈ l, match e with | .mk k op _ _ _ => k = 3 → op ≤ l.foldl maxPar x := by
  induction l generalizing x with
  | nil => exact ⟨Int.le_refl _, fun e h => by cases h⟩
  | cons a l ih =>
    obtain ⟨h1, h2⟩ := ih (maxPar x a)
    rw [List.foldl_cons]
    have hx : x ≤ maxPar x a := by
      cases a; simp only [maxPar, kindE, opE]; repeat' split
      all_goals omega
    refine ⟨Int.le_trans hx h1, fun e he => ?_⟩
    rcases List.mem_cons.1 he with rfl | he
    · cases e
      intro hk
      refine Int.le_trans ?_ h1
      simp only [maxPar, kindE, opE]; repeat' split
      all_goals omega
    · exact h2 e he
theorem pin_of {n : Nat} {e : Ex} (hr : allE (rightE true) e = true) (hn : paramsE e ≤ n) : allE (pin n) e = true := by
  rw [allE_parts, List.all_eq_true] at hr ⊢
  unfold paramsE at hn
  rw [fold_parts] at hn
  intro x hx
  have h1 := (maxPar_le (parts e) 0).2 x hx
  have h2 := hr x hx
  cases x
  rename_i k op v nm kids
  unfold pin
  dsimp only
  by_cases hk : k = 3
  · subst hk
    have h3 := h1 rfl
    have h4 : 1 ≤ op := by simp [rightE] at h2; omega
    simp; omega
  · simp [hk]
end Go.Proofs.Ytbmgenifdlgbmaa.D
namespace Go.Proofs.Ytbmgenifdlgbmaa.D
set_option linter.unusedVariables false
set_option linter.unusedSimpArgs false
open Go Go.Proofs.Ytbmgenifdlgbmaa.D.Pm
set_option maxRecDepth 4000
def zEx : Ex := .mk 0 0 zV ⟨#[]⟩ []
def fR (p : Ex × Int) : AV := .t [.g (eE p.1), vI .i64 p.2]
def fillTop (ps : List Val) (e : Ex) : Ex × Int :=
  if checkE true e ≠ 0 then (zEx, (checkE true e : Nat)) else if (ps.length : Int) < paramsE e then (zEx, 37) else if filledOk ps e = false then (zEx, 2)
  else if 8 < height (filledE ps e) then (zEx, 17) else (filledE ps e, 0)
theorem Fin.zX {st0 st : Sto} {f : Int} {p : Ex × Int} (e : p = (zEx, f)) (h : Le st0 st) : Fin (fun r s => r = fR p ∧ s = st0) (.t [.g zeroC, vI .i64 f]) st := by
  subst e
  refine ⟨fun _ => false, st0, fR (zEx, f), .t _ _ rfl (fun j c c' w1 w2 => ?_), fun i o ho => ⟨h i o ho, rfl⟩, rfl, rfl⟩
  match j, w1, w2 with
  | 0, w1, w2 => cases w1; cases w2; exact FV.gl (.cons (.refl _) (.cons (.refl _) (.cons (.refl _) (.cons (.refl _) (.cons (.refl _) (.cons (.refl _) (.cons (.nil 7) .nil)))))))
  | 1, w1, w2 => cases w1; cases w2; exact .refl _
  | j + 2, w1, w2 => simp at w2
theorem check0 {e : Ex} (h : checkE true e = 0) : allE (rightE true) e = true := by
  unfold checkE at h
  split at h
  · cases h
  · split at h
    · assumption
    · cases h
theorem Fill_is {ps : List Val} (hp : ∀ v ∈ ps, okV v ∧ v.s.size < Big) (hl : ps.length ≤ Big) (e : Ex) (ok : okE e) (hn : nodes e ≤ 1000) : Is Try.prog 44 [.g (eE e), .c (.sl 3 (ps.map eV))] (fR (fillTop ps e)) := by
  have c1 := check_is e ok true
  have c2 := params_is e ok
  have hnx := nodes_filled ps e
  have okx := okE_filled (fun v hv => (hp v hv).2) e ok
  have c4 := xheight_is _ okx (by unfold Lim; omega)
  have c3 : checkE true e = 0 → paramsE e ≤ (ps.length : Nat) → Is Try.prog 93 [.g (eE e), .c (.sl 3 (ps.map eV))] (.t [.g (eE (filledE ps e)), vB (filledOk ps e)]) := fun h1 h2 => filled_is (fun v hv => (hp v hv).1) hl e ok (by unfold Lim; omega) (pin_of (check0 h1) h2)
  unfold fillTop
  clear hnx okx ok hn
  generalize checkE true e = c at c1 c3
  generalize paramsE e = n at c2 c3
  generalize filledE ps e = x at c3 c4
  generalize filledOk ps e = b at c3
  generalize height x = m at c4
  cases e
  refine Is.of TP Try.func44 rfl rfl (Nat.le_of_ble_eq_true rfl) fun st => Pw.of TP [] ?_
  conv => whnf
  intro id hid
  conv => whnf
  refine Is.callI c1 fun c' hc' => ?_
  subst hc'
  conv => whnf
  refine ⟨fun h => ?_, fun h => ?_⟩ <;> conv => whnf
  · repeat' (first | (apply Exists.intro; apply And.intro; (first | ((with_reducible (repeat (refine Eq.trans (upd_ne _ ?_) ?_; (first | assumption | (apply Ne.symm; assumption))))); first | exact upd_same _ _ _ | assumption) | ((repeat (refine Eq.trans (upd_ne _ ?_) ?_; (first | assumption | (apply Ne.symm; assumption)))); first | exact upd_same _ _ _ | assumption)); refine ⟨Nat.le_of_ble_eq_true rfl, ?_⟩; conv => whnf) | (apply Exists.intro; apply And.intro; (first | ((with_reducible (repeat (refine Eq.trans (upd_ne _ ?_) ?_; (first | assumption | (apply Ne.symm; assumption))))); first | exact upd_same _ _ _ | assumption) | ((repeat (refine Eq.trans (upd_ne _ ?_) ?_; (first | assumption | (apply Ne.symm; assumption)))); first | exact upd_same _ _ _ | assumption)); conv => whnf))
    exact Fin.zX (if_pos (by omega)) (by (first | (with_reducible (iterate 24 (try any_goals (first | exact Le.refl _ | assumption | apply Le.up2))); done) | (iterate 24 (try any_goals (first | exact Le.refl _ | assumption | apply Le.up2)))))
  have hc : c = 0 := by omega
  rw [if_neg (by omega)]
  refine Is.callI c2 fun n' hn' => ?_
  subst hn'
  conv => whnf
  refine ⟨fun h => ?_, fun h => ?_⟩ <;> conv => whnf
  · repeat' (first | (apply Exists.intro; apply And.intro; (first | ((with_reducible (repeat (refine Eq.trans (upd_ne _ ?_) ?_; (first | assumption | (apply Ne.symm; assumption))))); first | exact upd_same _ _ _ | assumption) | ((repeat (refine Eq.trans (upd_ne _ ?_) ?_; (first | assumption | (apply Ne.symm; assumption)))); first | exact upd_same _ _ _ | assumption)); refine ⟨Nat.le_of_ble_eq_true rfl, ?_⟩; conv => whnf) | (apply Exists.intro; apply And.intro; (first | ((with_reducible (repeat (refine Eq.trans (upd_ne _ ?_) ?_; (first | assumption | (apply Ne.symm; assumption))))); first | exact upd_same _ _ _ | assumption) | ((repeat (refine Eq.trans (upd_ne _ ?_) ?_; (first | assumption | (apply Ne.symm; assumption)))); first | exact upd_same _ _ _ | assumption)); conv => whnf))
    exact Fin.zX (if_pos (by rw [List.length_map] at h; exact h)) (by (first | (with_reducible (iterate 24 (try any_goals (first | exact Le.refl _ | assumption | apply Le.up2))); done) | (iterate 24 (try any_goals (first | exact Le.refl _ | assumption | apply Le.up2)))))
  rw [List.length_map] at h
  rw [if_neg h]
  cases x
  refine Is.call (c3 hc (by omega)) ?_
  cases b <;> conv => whnf
  · repeat' (first | (apply Exists.intro; apply And.intro; (first | ((with_reducible (repeat (refine Eq.trans (upd_ne _ ?_) ?_; (first | assumption | (apply Ne.symm; assumption))))); first | exact upd_same _ _ _ | assumption) | ((repeat (refine Eq.trans (upd_ne _ ?_) ?_; (first | assumption | (apply Ne.symm; assumption)))); first | exact upd_same _ _ _ | assumption)); refine ⟨Nat.le_of_ble_eq_true rfl, ?_⟩; conv => whnf) | (apply Exists.intro; apply And.intro; (first | ((with_reducible (repeat (refine Eq.trans (upd_ne _ ?_) ?_; (first | assumption | (apply Ne.symm; assumption))))); first | exact upd_same _ _ _ | assumption) | ((repeat (refine Eq.trans (upd_ne _ ?_) ?_; (first | assumption | (apply Ne.symm; assumption)))); first | exact upd_same _ _ _ | assumption)); conv => whnf))
    exact Fin.zX (if_pos rfl) (by (first | (with_reducible (iterate 24 (try any_goals (first | exact Le.refl _ | assumption | apply Le.up2))); done) | (iterate 24 (try any_goals (first | exact Le.refl _ | assumption | apply Le.up2)))))
  rw [if_neg (by decide)]
  refine Is.callI c4 fun m' hm' => ?_
  subst hm'
  conv => whnf
  refine ⟨fun h => ?_, fun h => ?_⟩ <;> conv => whnf
  · repeat' (first | (apply Exists.intro; apply And.intro; (first | ((with_reducible (repeat (refine Eq.trans (upd_ne _ ?_) ?_; (first | assumption | (apply Ne.symm; assumption))))); first | exact upd_same _ _ _ | assumption) | ((repeat (refine Eq.trans (upd_ne _ ?_) ?_; (first | assumption | (apply Ne.symm; assumption)))); first | exact upd_same _ _ _ | assumption)); refine ⟨Nat.le_of_ble_eq_true rfl, ?_⟩; conv => whnf) | (apply Exists.intro; apply And.intro; (first | ((with_reducible (repeat (refine Eq.trans (upd_ne _ ?_) ?_; (first | assumption | (apply Ne.symm; assumption))))); first | exact upd_same _ _ _ | assumption) | ((repeat (refine Eq.trans (upd_ne _ ?_) ?_; (first | assumption | (apply Ne.symm; assumption)))); first | exact upd_same _ _ _ | assumption)); conv => whnf))
    exact Fin.zX (if_pos (by omega)) (by (first | (with_reducible (iterate 24 (try any_goals (first | exact Le.refl _ | assumption | apply Le.up2))); done) | (iterate 24 (try any_goals (first | exact Le.refl _ | assumption | apply Le.up2)))))
  · repeat' (first | (apply Exists.intro; apply And.intro; (first | ((with_reducible (repeat (refine Eq.trans (upd_ne _ ?_) ?_; (first | assumption | (apply Ne.symm; assumption))))); first | exact upd_same _ _ _ | assumption) | ((repeat (refine Eq.trans (upd_ne _ ?_) ?_; (first | assumption | (apply Ne.symm; assumption)))); first | exact upd_same _ _ _ | assumption)); refine ⟨Nat.le_of_ble_eq_true rfl, ?_⟩; conv => whnf) | (apply Exists.intro; apply And.intro; (first | ((with_reducible (repeat (refine Eq.trans (upd_ne _ ?_) ?_; (first | assumption | (apply Ne.symm; assumption))))); first | exact upd_same _ _ _ | assumption) | ((repeat (refine Eq.trans (upd_ne _ ?_) ?_; (first | assumption | (apply Ne.symm; assumption)))); first | exact upd_same _ _ _ | assumption)); conv => whnf))
    rw [if_neg (by omega)]
    exact Fin.old rfl (by (first | (with_reducible (iterate 24 (try any_goals (first | exact Le.refl _ | assumption | apply Le.up2))); done) | (iterate 24 (try any_goals (first | exact Le.refl _ | assumption | apply Le.up2)))))
def parOk (ps : List Val) (e : Ex) : Bool := match e with | .mk k op _ _ _ => !decide (k = 3) || vright (pat ps op)
theorem filledOk_parts {ps : List Val} : ∀ e, allE (rightE true) e = true → filledOk ps e = (parts e).all (parOk ps) := by
  refine Ex.ind fun k op v nm kids ih hr => ?_
  rw [allE, Bool.and_eq_true, allEs_all, List.all_eq_true] at hr
  rw [parts, List.all_cons]
  unfold filledOk parOk
  dsimp only
  by_cases hk : k = 3
  · subst hk
    have hl : kids = [] := by
      have := hr.1
      simp [rightE] at this
      exact this.1
    subst hl
    simp [partsL]
  · rw [if_neg hk, filledOks_all]
    simp only [hk, decide_false, Bool.not_false, Bool.true_or, Bool.true_and]
    have h2 := hr.2
    clear hr
    induction kids with
    | nil => rfl
    | cons a l ih2 =>
      rw [List.all_cons, partsL, List.all_append, ih a (List.mem_cons_self ..) (h2 a (List.mem_cons_self ..)), ih2 (fun e he => ih e (List.mem_cons_of_mem _ he)) (fun e he => h2 e (List.mem_cons_of_mem _ he))]
      rfl
theorem rFill_is {ps : List Val} (hp : ∀ v ∈ ps, okV v ∧ v.s.size < Big) (hl : ps.length ≤ Big) (e : Ex) (ok : okE e) (hn : nodes e ≤ 1000) : Is Try.prog 45 [.g (eE e), .c (.sl 3 (ps.map eV))] (fR (fillTop ps e)) := by
  have c1 := rcheck_is e ok (by unfold Lim; omega) true
  have c2 := rparams_is e ok (by unfold Lim; omega)
  have c5 := parts_is e ok (by unfold Lim; omega)
  have hnx := nodes_filled ps e
  have okx := okE_filled (fun v hv => (hp v hv).2) e ok
  have c4 := rheight_is _ okx (by unfold Lim; omega)
  have c3 : checkE true e = 0 → paramsE e ≤ (ps.length : Nat) → Is Try.prog 96 [.g (eE e), .c (.sl 3 (ps.map eV))] (.g (eE (filledE ps e))) := fun h1 h2 => rfilled_is (fun v hv => (hp v hv).1) hl e ok (by unfold Lim; omega) (pin_of (check0 h1) h2)
  have hpin : checkE true e = 0 → paramsE e ≤ (ps.length : Nat) → ∀ x ∈ parts e, pin ps.length x = true := fun h1 h2 => by
    have := pin_of (check0 h1) h2
    rw [allE_parts, List.all_eq_true] at this
    exact this
  have hfo : checkE true e = 0 → filledOk ps e = (parts e).all (parOk ps) := fun h => filledOk_parts e (check0 h)
  have hlp := parts_len e
  unfold fillTop
  clear hnx okx ok
  generalize checkE true e = c at c1 c3 hpin hfo
  generalize paramsE e = n at c2 c3 hpin
  generalize filledE ps e = x at c3 c4
  generalize filledOk ps e = b at hfo
  generalize height x = m at c4
  generalize parts e = l at c5 hpin hfo hlp
  cases e
  refine Is.of TP Try.func45 rfl rfl (Nat.le_of_ble_eq_true rfl) fun st => Pw.of TP [] ?_
  conv => whnf
  intro id hid
  conv => whnf
  refine Is.callI c1 fun c' hc' => ?_
  subst hc'
  conv => whnf
  refine ⟨fun h => ?_, fun h => ?_⟩ <;> conv => whnf
  · repeat' (first | (apply Exists.intro; apply And.intro; (first | ((with_reducible (repeat (refine Eq.trans (upd_ne _ ?_) ?_; (first | assumption | (apply Ne.symm; assumption))))); first | exact upd_same _ _ _ | assumption) | ((repeat (refine Eq.trans (upd_ne _ ?_) ?_; (first | assumption | (apply Ne.symm; assumption)))); first | exact upd_same _ _ _ | assumption)); refine ⟨Nat.le_of_ble_eq_true rfl, ?_⟩; conv => whnf) | (apply Exists.intro; apply And.intro; (first | ((with_reducible (repeat (refine Eq.trans (upd_ne _ ?_) ?_; (first | assumption | (apply Ne.symm; assumption))))); first | exact upd_same _ _ _ | assumption) | ((repeat (refine Eq.trans (upd_ne _ ?_) ?_; (first | assumption | (apply Ne.symm; assumption)))); first | exact upd_same _ _ _ | assumption)); conv => whnf))
    exact Fin.zX (if_pos (by omega)) (by (first | (with_reducible (iterate 24 (try any_goals (first | exact Le.refl _ | assumption | apply Le.up2))); done) | (iterate 24 (try any_goals (first | exact Le.refl _ | assumption | apply Le.up2)))))
  have hc : c = 0 := by omega
  rw [if_neg (by omega)]
  refine Is.callI c2 fun n' hn' => ?_
  subst hn'
  conv => whnf
  refine ⟨fun h => ?_, fun h => ?_⟩ <;> conv => whnf
  · repeat' (first | (apply Exists.intro; apply And.intro; (first | ((with_reducible (repeat (refine Eq.trans (upd_ne _ ?_) ?_; (first | assumption | (apply Ne.symm; assumption))))); first | exact upd_same _ _ _ | assumption) | ((repeat (refine Eq.trans (upd_ne _ ?_) ?_; (first | assumption | (apply Ne.symm; assumption)))); first | exact upd_same _ _ _ | assumption)); refine ⟨Nat.le_of_ble_eq_true rfl, ?_⟩; conv => whnf) | (apply Exists.intro; apply And.intro; (first | ((with_reducible (repeat (refine Eq.trans (upd_ne _ ?_) ?_; (first | assumption | (apply Ne.symm; assumption))))); first | exact upd_same _ _ _ | assumption) | ((repeat (refine Eq.trans (upd_ne _ ?_) ?_; (first | assumption | (apply Ne.symm; assumption)))); first | exact upd_same _ _ _ | assumption)); conv => whnf))
    exact Fin.zX (if_pos (by rw [List.length_map] at h; exact h)) (by (first | (with_reducible (iterate 24 (try any_goals (first | exact Le.refl _ | assumption | apply Le.up2))); done) | (iterate 24 (try any_goals (first | exact Le.refl _ | assumption | apply Le.up2)))))
  rw [List.length_map] at h
  rw [if_neg h]
  have hb := hfo hc
  have hpin := hpin hc (by omega)
  subst hb
  refine Is.call c5 ?_
  conv => whnf
  have hll : l.length ≤ Big := by unfold Big; omega
  clear hfo c5 hlp hn c1 c2
  refine Pw.rng (τ := Unit) 8 l.length hll [1, 2, 4, 7] (fun _ => []) (fun i _ => ∀ x ∈ l.take i, parOk ps x = true) () rfl trivial (fun t h => by simp at h) fun i _ hi hx => Pw.of TP [] ?_
  conv => whnf
  refine ⟨fun h => ?_, fun h => ?_⟩ <;> conv => whnf
  · have hi' := ltE ‹_›
    have key : ∀ F : List AC → Prop, F (eE l[i]) → 0 ≤ (i : Int) ∧ (i : Int) < ((eEs l).length : Nat) ∧ ∃ r, (eEs l)[(i : Int).toNat]? = some r ∧ F r := fun F hF => ixE hi' hF
    have hpi := hpin _ (List.getElem_mem hi')
    have et := List.take_succ_eq_append_getElem hi'
    have hnext : parOk ps l[i] = true → ∀ x ∈ l.take (i + 1), parOk ps x = true := fun h2 x h => by
      rw [et] at h
      rcases List.mem_append.1 h with h | h
      · exact hx x h
      · simp at h; subst h; exact h2
    have hstop : parOk ps l[i] = false → l.all (parOk ps) = false := fun h2 => all_at hi' h2
    clear et
    generalize l[i] = y at hpi hnext hstop key
    obtain ⟨k, op, v, nm, kids⟩ := y
    refine key _ ?_
    conv => whnf
    refine ⟨fun h => ?_, fun h => ?_⟩ <;> conv => whnf
    · have hop : 1 ≤ op ∧ op ≤ ps.length := by simpa [pin, *] using hpi
      have hw : IntKind.i64.wrap (op - 1) = op - 1 := wid (by unfold in64; unfold Big at hl; omega)
      obtain ⟨j, hj⟩ : ∃ j : Nat, op - 1 = j := ⟨(op - 1).toNat, by omega⟩
      have hlt : j < ps.length := by omega
      have hpat : pat ps op = ps[j] := by unfold pat; rw [hj, Int.toNat_natCast, List.getD_eq_getElem?_getD, List.getElem?_eq_getElem hlt]; rfl
      have hv := hp _ (List.getElem_mem hlt)
      have hpo : parOk ps (.mk k op v nm kids) = vright ps[j] := by unfold parOk; dsimp only; rw [hpat]; simp [*]
      rw [hpo] at hnext hstop
      refine key _ ?_
      conv => whnf
      rw [hw, hj]
      refine ixm hlt ?_
      conv => whnf
      refine Is.callB (rvright_is _ hv.1.2) fun b hb => ?_
      cases b <;> conv => whnf
      · repeat' (first | (apply Exists.intro; apply And.intro; (first | ((with_reducible (repeat (refine Eq.trans (upd_ne _ ?_) ?_; (first | assumption | (apply Ne.symm; assumption))))); first | exact upd_same _ _ _ | assumption) | ((repeat (refine Eq.trans (upd_ne _ ?_) ?_; (first | assumption | (apply Ne.symm; assumption)))); first | exact upd_same _ _ _ | assumption)); refine ⟨Nat.le_of_ble_eq_true rfl, ?_⟩; conv => whnf) | (apply Exists.intro; apply And.intro; (first | ((with_reducible (repeat (refine Eq.trans (upd_ne _ ?_) ?_; (first | assumption | (apply Ne.symm; assumption))))); first | exact upd_same _ _ _ | assumption) | ((repeat (refine Eq.trans (upd_ne _ ?_) ?_; (first | assumption | (apply Ne.symm; assumption)))); first | exact upd_same _ _ _ | assumption)); conv => whnf))
        exact Fin.zX (if_pos (hstop hb)) (by (first | (with_reducible (iterate 24 (try any_goals (first | exact Le.refl _ | assumption | apply Le.up2))); done) | (iterate 24 (try any_goals (first | exact Le.refl _ | assumption | apply Le.up2)))))
      · exact ⟨hi', rfl, ⟨rfl, rfl, rfl, rfl, trivial⟩, (), trivial, .refl _, hnext hb⟩
    · have hpo : parOk ps (.mk k op v nm kids) = true := by unfold parOk; simp [*]
      exact ⟨hi', rfl, ⟨rfl, rfl, rfl, rfl, trivial⟩, (), trivial, .refl _, hnext hpo⟩
  · obtain rfl := nltE ‹_› hi
    rw [List.take_length] at hx
    rw [if_neg (by rw [List.all_eq_true.2 hx]; decide)]
    cases x
    refine Is.call (c3 hc (by omega)) ?_
    conv => whnf
    refine Is.callI c4 fun m' hm' => ?_
    subst hm'
    conv => whnf
    refine ⟨fun h => ?_, fun h => ?_⟩ <;> conv => whnf
    · repeat' (first | (apply Exists.intro; apply And.intro; (first | ((with_reducible (repeat (refine Eq.trans (upd_ne _ ?_) ?_; (first | assumption | (apply Ne.symm; assumption))))); first | exact upd_same _ _ _ | assumption) | ((repeat (refine Eq.trans (upd_ne _ ?_) ?_; (first | assumption | (apply Ne.symm; assumption)))); first | exact upd_same _ _ _ | assumption)); refine ⟨Nat.le_of_ble_eq_true rfl, ?_⟩; conv => whnf) | (apply Exists.intro; apply And.intro; (first | ((with_reducible (repeat (refine Eq.trans (upd_ne _ ?_) ?_; (first | assumption | (apply Ne.symm; assumption))))); first | exact upd_same _ _ _ | assumption) | ((repeat (refine Eq.trans (upd_ne _ ?_) ?_; (first | assumption | (apply Ne.symm; assumption)))); first | exact upd_same _ _ _ | assumption)); conv => whnf))
      exact Fin.zX (if_pos (by omega)) (by (first | (with_reducible (iterate 24 (try any_goals (first | exact Le.refl _ | assumption | apply Le.up2))); done) | (iterate 24 (try any_goals (first | exact Le.refl _ | assumption | apply Le.up2)))))
    · repeat' (first | (apply Exists.intro; apply And.intro; (first | ((with_reducible (repeat (refine Eq.trans (upd_ne _ ?_) ?_; (first | assumption | (apply Ne.symm; assumption))))); first | exact upd_same _ _ _ | assumption) | ((repeat (refine Eq.trans (upd_ne _ ?_) ?_; (first | assumption | (apply Ne.symm; assumption)))); first | exact upd_same _ _ _ | assumption)); refine ⟨Nat.le_of_ble_eq_true rfl, ?_⟩; conv => whnf) | (apply Exists.intro; apply And.intro; (first | ((with_reducible (repeat (refine Eq.trans (upd_ne _ ?_) ?_; (first | assumption | (apply Ne.symm; assumption))))); first | exact upd_same _ _ _ | assumption) | ((repeat (refine Eq.trans (upd_ne _ ?_) ?_; (first | assumption | (apply Ne.symm; assumption)))); first | exact upd_same _ _ _ | assumption)); conv => whnf))
      rw [if_neg (by omega)]
      exact Fin.old rfl (by (first | (with_reducible (iterate 24 (try any_goals (first | exact Le.refl _ | assumption | apply Le.up2))); done) | (iterate 24 (try any_goals (first | exact Le.refl _ | assumption | apply Le.up2)))))
end Go.Proofs.Ytbmgenifdlgbmaa.D
namespace Go.Proofs.Ytbmgenifdlgbmaa.D
set_option linter.unusedVariables false
set_option linter.unusedSimpArgs false
open Go Go.Proofs.Ytbmgenifdlgbmaa.D.Pm
set_option maxRecDepth 4000
def I64 (n : Int) : Prop := (Lit.int .i64 n).wf = true
def wfV (v : Val) : Prop := I64 v.k ∧ I64 v.n ∧ v.s.size ≤ maxLen
mutual
def wfE : Ex → Prop
  | .mk k op v n kids => I64 k ∧ I64 op ∧ wfV v ∧ n.size ≤ maxLen ∧ kids.length ≤ maxLen ∧ wfEs kids
def wfEs : List Ex → Prop
  | [] => True
  | e :: l => wfE e ∧ wfEs l
end
theorem wfEs_of : ∀ {l : List Ex}, (∀ e ∈ l, wfE e) → wfEs l
  | [], _ => trivial
  | e :: l, h => ⟨h e (List.mem_cons_self ..), wfEs_of fun x hx => h x (List.mem_cons_of_mem _ hx)⟩
theorem wfEs_all : ∀ {l : List Ex}, wfEs l → ∀ e ∈ l, wfE e
  | e :: l, h, x, hx => by
    rcases List.mem_cons.1 hx with rfl | hx
    · exact h.1
    · exact wfEs_all h.2 x hx
theorem rdV (m : Nat) : Rd Try.prog 23 eV wfV m :=
  (Rd.st (fun a : Int × Int × ByteArray => (⟨a.1, a.2.1, a.2.2⟩ : Val)) (by exact fun a => ⟨rfl, fun h => h⟩) Try.underlying23 (by kernel_rfl)
    (RdF.cons (s1 := 1) rfl (by kernel_rfl) (Rd.int Try.underlying3) (RdF.cons (s1 := 1) rfl (by kernel_rfl) (Rd.int Try.underlying3) (RdF.last (sz := 1) rfl (by kernel_rfl) (Rd.str Try.underlying9))))).less
theorem rdE : ∀ m, Rd Try.prog 26 eE wfE m
  | 0 => Rd.zero
  | m + 1 => Rd.st (fun a : Int × Int × Val × ByteArray × List Ex => Ex.mk a.1 a.2.1 a.2.2.1 a.2.2.2.1 a.2.2.2.2) (by exact fun a => ⟨by rw [eE, eEs_map]; rfl, fun h => ⟨h.1, h.2.1, h.2.2.1, h.2.2.2.1, h.2.2.2.2.1, wfEs_of h.2.2.2.2.2⟩⟩) Try.underlying26 (by kernel_rfl)
      (RdF.cons (s1 := 1) rfl (by kernel_rfl) (Rd.int Try.underlying3) (RdF.cons (s1 := 1) rfl (by kernel_rfl) (Rd.int Try.underlying3) (RdF.cons (s1 := 3) rfl (by kernel_rfl) (rdV m) (RdF.cons (s1 := 1) rfl (by kernel_rfl) (Rd.str Try.underlying9)
        (RdF.last (sz := 1) rfl (by kernel_rfl) (Rd.sl (sz := 7) (by decide) Try.underlying24 (by kernel_rfl) (rdE m)))))))
def wfVs (r : List Val) : Prop := r.length ≤ maxLen ∧ ∀ v ∈ r, wfV v
theorem rdVs (m : Nat) : Rd Try.prog 61 (fun l => [.sl 3 (l.map eV)]) wfVs m := Rd.sl (sz := 3) (by decide) Try.underlying61 (by kernel_rfl) (rdV m)
theorem in64_of {n : Int} (h : I64 n) : in64 n := by
  unfold I64 at h
  simp [Lit.wf, IntKind.min, IntKind.max, IntKind.bits, IntKind.signed] at h
  unfold in64
  omega
mutual
theorem inE_of : ∀ {e : Ex}, wfE e → inE e
  | .mk k op v n kids, h => ⟨in64_of h.2.2.1.2.1, inEs_of h.2.2.2.2.2⟩
theorem inEs_of : ∀ {l : List Ex}, wfEs l → inEs l
  | [], _ => trivial
  | e :: l, h => ⟨inE_of h.1, inEs_of h.2⟩
end
end Go.Proofs.Ytbmgenifdlgbmaa.D
namespace Go.Proofs.Ytbmgenifdlgbmaa.D
set_option linter.unusedVariables false
set_option linter.unusedSimpArgs false
open Go Go.Proofs.Ytbmgenifdlgbmaa.D.Pm
set_option maxRecDepth 4000
def fewV (l : List Val) : Bool := decide (l.length ≤ 12) && l.all (fun v => decide (v.s.size ≤ 100))
def vsC (l : List Val) : List AC := [.sl 3 (l.map eV)]
theorem few_v (ls : List (List Val)) (hl : ls.length ≤ Big) : Is Try.prog 42 [.c (.sl 1 (ls.map vsC))] (vB (ls.all fewV)) := by
  refine Is.of TP Try.func42 rfl rfl (Nat.le_of_ble_eq_true rfl) fun st => Pw.of TP [] ?_
  conv => whnf
  refine Pw.rng (τ := Unit) 3 (ls.map vsC).length (by simpa using hl) [0] (fun _ => []) (fun i _ => ∀ l ∈ ls.take i, fewV l = true) () rfl trivial (fun t h => by simp at h) fun i _ hi hx => Pw.of TP [] ?_
  conv => whnf
  refine ⟨fun h => ?_, fun h => ?_⟩ <;> conv => whnf
  · have hi' : i < ls.length := lt_map h
    have key : ∀ F : List AC → Prop, F (vsC ls[i]) → 0 ≤ (i : Int) ∧ (i : Int) < ((ls.map vsC).length : Nat) ∧ ∃ r, (ls.map vsC)[(i : Int).toNat]? = some r ∧ F r := fun F hF => ixm hi' hF
    have hnext : fewV ls[i] = true → ∀ l ∈ ls.take (i + 1), fewV l = true := fun h2 l h => by
      rw [List.take_succ_eq_append_getElem hi'] at h
      rcases List.mem_append.1 h with h | h
      · exact hx l h
      · simp at h; subst h; exact h2
    have hstop : fewV ls[i] = false → ls.all fewV = false := fun h2 => all_at hi' h2
    generalize ls[i] = l at key hnext hstop
    refine key _ ?_
    conv => whnf
    refine ⟨fun h => ?_, fun h => ?_⟩ <;> conv => whnf
    · (refine Fin.old (congrArg vB ?_) (.refl _); rw [hstop]; unfold fewV; simp at *; omega)
    · have hl12 : l.length ≤ 12 := by simp at *; omega
      refine Pw.rng (τ := Unit) 4 (l.map eV).length (by simp; unfold Big; omega) [0, 3] (fun _ => []) (fun j _ => ∀ v ∈ l.take j, v.s.size ≤ 100) () rfl trivial (fun t h => by simp at h) fun j _ hj hy => Pw.of TP [] ?_
      conv => whnf
      refine key _ ?_
      conv => whnf
      refine ⟨fun h => ?_, fun h => ?_⟩ <;> conv => whnf
      · have hj' : j < l.length := lt_map ‹_›
        refine key _ ?_
        conv => whnf
        refine ixm hj' ?_
        conv => whnf
        refine ⟨fun h => ?_, fun h => ?_⟩ <;> conv => whnf
        · (refine Fin.old (congrArg vB ?_) (.refl _); rw [hstop]; unfold fewV; rw [all_at hj' (decide_eq_false (by omega))]; simp)
        · refine ⟨by simpa using hj', rfl, ⟨rfl, rfl, trivial⟩, (), trivial, .refl _, fun v hv => ?_⟩
          rw [List.take_succ_eq_append_getElem hj'] at hv
          rcases List.mem_append.1 hv with hv | hv
          · exact hy v hv
          · simp at hv; subst hv; omega
      · have hj' := nlt_map ‹_› (by simpa using hj)
        subst hj'
        rw [List.take_length] at hy
        exact ⟨by simpa using hi', rfl, ⟨rfl, trivial⟩, (), trivial, .refl _, hnext (by unfold fewV; rw [decide_eq_true hl12, List.all_eq_true.2 (fun v hv => decide_eq_true (hy v hv))]; rfl)⟩
  · have hi' := nlt_map h (by simpa using hi)
    subst hi'
    rw [List.take_length] at hx
    (refine Fin.old (congrArg vB ?_) (.refl _); symm; exact List.all_eq_true.2 hx)
theorem fewV_of {l : List Val} (h : fewV l = true) : l.length ≤ 12 ∧ ∀ v ∈ l, v.s.size ≤ 100 := by
  unfold fewV at h
  rw [Bool.and_eq_true, List.all_eq_true] at h
  exact ⟨of_decide_eq_true h.1, fun v hv => of_decide_eq_true (h.2 v hv)⟩
end Go.Proofs.Ytbmgenifdlgbmaa.D
namespace Go.Proofs.Ytbmgenifdlgbmaa.D
set_option linter.unusedVariables false
set_option linter.unusedSimpArgs false
open Go Go.Proofs.Ytbmgenifdlgbmaa.D.Pm
set_option maxRecDepth 4000
def agreeL (t : Int) : List Int → Int × Bool
  | [] => (t, true)
  | x :: l => if x ≠ 0 ∧ t ≠ 0 ∧ x ≠ t then (0, false) else agreeL (if t = 0 then x else t) l
def takesB (w : Int) (l : List Int) : Bool := (agreeL 0 (w :: l)).2
def tone (l : List Int) (n : Int) : Int × Int := match l[n.toNat]? with
  | some t => if n < 0 then (0, 37) else if t < 0 ∨ 3 < t then (0, 11) else (t, 0)
  | none => (0, 37)
def tcalled (nm : ByteArray) (l : List Int) : Int × Bool := if nm = lengthS then (1, takesB 3 l) else if nm = absS then (1, takesB 1 l) else agreeL 0 l
def tsigned (k op : Int) (l : List Int) : Int × Bool :=
  if k = 4 ∧ (op = 3 ∨ op = 4) then (2, true) else if (k = 4 ∧ op = 2) ∨ (k = 5 ∧ op ≤ 2) then (2, takesB 2 l) else if k = 5 ∧ op = 14 then (3, takesB 3 l)
  else if k = 5 ∧ op ≤ 8 then (2, (agreeL 0 l).2) else (1, takesB 1 l)
def tmade (k op : Int) (nm : ByteArray) (l : List Int) : Int × Bool :=
  if k = 6 then (if (l.drop 1).all (fun x => (agreeL 0 [l.headD 0, x]).2) = true then (2, true) else (0, false)) else if k = 7 then tcalled nm l else if k = 4 ∨ k = 5 then tsigned k op l else (0, false)
def tbR (p : Int × Bool) : AV := .t [vI .i64 p.1, vB p.2]
theorem Is.callT {P : Program} {f : FuncId} {xs : List AV} {p : Int × Bool} {st : Sto} {K : AV → Sto → Prop} (h : Is P f xs (tbR p)) (k : ∀ x y, p = (x, y) → K (.t [vI .i64 x, vB y]) st) : Does P f xs st K := h.call (k p.1 p.2 rfl)
theorem Fin.tb {x : Int} {y : Bool} {p : Int × Bool} {st st0 : Sto} (e : (x, y) = p) (h : Le st0 st) : Fin (fun r s => r = tbR p ∧ s = st0) (tupl [vI .i64 x, vB y]) st := .old (by rw [← e]; rfl) h
/-- a list that grew is the last argument -/
theorem Does.grow {P : Program} {f : FuncId} {st0 st : Sto} {sz : Nat} {a : AC} {rows : List (List AC)} {xs : List AV} {K : AV → Sto → Prop} (hg : Grow st0 sz st a rows) (hr : ∀ r ∈ rows, r.length = sz) (h : Does P f (xs ++ [.c (.sl sz rows)]) st0 K) : Does P f (xs ++ [.c a]) st K := by
  obtain ⟨D, h1, h2⟩ := hg.fv hr
  refine Does.argsD (as' := xs ++ [.c (.sl sz rows)]) (st' := st0) D (fun i o hi => ⟨hg.1 i o hi, ?_⟩) (by simp) (fun j r r' q1 q2 => ?_) h
  · cases hd : D i with
    | false => rfl
    | true => rw [h2 i hd] at hi; cases hi
  · by_cases hj : j < xs.length
    · rw [List.getElem?_append_left hj] at q1 q2
      rw [q1] at q2; cases q2; exact .refl _
    · rw [List.getElem?_append_right (by omega)] at q1 q2
      match hq : j - xs.length, q1, q2 with
      | 0, q1, q2 => cases q1; cases q2; exact .c _ _ (h1 D fun _ h => h)
      | n + 1, q1, q2 => simp at q1
theorem iC_row (l : List Int) : ∀ r ∈ l.map iC, r.length = 1 := fun r hr => by obtain ⟨x, _, rfl⟩ := List.mem_map.1 hr; rfl
theorem tone_is (l : List Int) (n : Int) : Is Try.prog 106 [.c (.sl 1 (l.map iC)), vI .i64 n] (nfR (tone l n)) := by
  refine Is.of TP Try.func106 rfl rfl (Nat.le_of_ble_eq_true rfl) fun st => Pw.of TP [] ?_
  conv => whnf
  refine ⟨fun h => ?_, fun h => ?_⟩ <;> conv => whnf
  · exact Fin.nf (by unfold tone; split <;> simp [*]) (.refl _)
  refine ⟨fun h => ?_, fun h => ?_⟩ <;> conv => whnf
  · exact Fin.nf (by unfold tone; rw [List.getElem?_eq_none (by simp at *; omega)]) (.refl _)
  have hlt : n.toNat < l.length := by simp at *; omega
  obtain ⟨m, rfl⟩ : ∃ m : Nat, n = m := ⟨n.toNat, by omega⟩
  have hm : l[((m : Nat) : Int).toNat]? = some l[m] := List.getElem?_eq_getElem (by simpa using hlt)
  have key : ∀ F : List AC → Prop, F (iC l[m]) → 0 ≤ (m : Int) ∧ (m : Int) < ((l.map iC).length : Nat) ∧ ∃ r, (l.map iC)[(m : Int).toNat]? = some r ∧ F r := fun F hF => ixm (by simpa using hlt) hF
  unfold tone
  rw [hm]
  generalize l[m] = t at key
  clear hm
  refine key _ ?_
  conv => whnf
  refine ⟨fun h => ?_, fun h => ?_⟩ <;> conv => whnf
  · exact Fin.nf (by dsimp only; rw [if_neg (by omega), if_pos (.inl ‹_›)]) (.refl _)
  refine key _ ?_
  conv => whnf
  refine ⟨fun h => ?_, fun h => ?_⟩ <;> conv => whnf
  · exact Fin.nf (by dsimp only; rw [if_neg (by omega), if_pos (.inr ‹_›)]) (.refl _)
  refine key _ ?_
  conv => whnf
  exact Fin.nf (by dsimp only; rw [if_neg (by omega), if_neg (by omega)]) (.refl _)
theorem agreeL_end (t : Int) : agreeL t [] = (t, true) := rfl
theorem agree_is (l : List Int) (hl : l.length ≤ Big) : Is Try.prog 134 [.c (.sl 1 (l.map iC))] (tbR (agreeL 0 l)) := by
  refine Is.of TP Try.func134 rfl rfl (Nat.le_of_ble_eq_true rfl) fun st => Pw.of TP [] ?_
  conv => whnf
  refine Pw.rng (τ := Int) 9 (l.map iC).length (by simpa using hl) [0, 7, 8] (fun t => [(4, vI .i64 t)]) (fun i t => agreeL 0 l = agreeL t (l.drop i)) 0 rfl ⟨rfl, trivial⟩ rfl fun i t hi hx => Pw.of TP [] ?_
  conv => whnf
  refine ⟨fun h => ?_, fun h => ?_⟩ <;> conv => whnf
  · have hi' : i < l.length := lt_map h
    rw [List.drop_eq_getElem_cons hi', agreeL] at hx
    have key : ∀ F : List AC → Prop, F (iC l[i]) → 0 ≤ (i : Int) ∧ (i : Int) < ((l.map iC).length : Nat) ∧ ∃ r, (l.map iC)[(i : Int).toNat]? = some r ∧ F r := fun F hF => ixm hi' hF
    generalize l[i] = x at hx key
    refine key _ ?_
    conv => whnf
    repeat' (first | (refine ⟨fun h => ?_, fun h => ?_⟩ <;> conv => whnf) | fail)
    all_goals first | (refine Fin.tb ?_ (.refl _); rw [hx, if_pos ⟨by assumption, by assumption, by assumption⟩]; done) | skip
    all_goals rw [if_neg (by omega)] at hx
    all_goals first | (rw [if_pos (by assumption)] at hx; exact ⟨by simpa using hi', rfl, ⟨rfl, rfl, rfl, trivial⟩, x, ⟨rfl, trivial⟩, .refl _, hx⟩) | (rw [if_neg (by assumption)] at hx; exact ⟨by simpa using hi', rfl, ⟨rfl, rfl, rfl, trivial⟩, t, ⟨rfl, trivial⟩, .refl _, hx⟩)
  · have hi' := nlt_map h (by simpa using hi)
    subst hi'
    rw [List.drop_length] at hx
    exact Fin.tb (by rw [hx]; rfl) (.refl _)
end Go.Proofs.Ytbmgenifdlgbmaa.D
namespace Go.Proofs.Ytbmgenifdlgbmaa.D
set_option linter.unusedVariables false
set_option linter.unusedSimpArgs false
open Go Go.Proofs.Ytbmgenifdlgbmaa.D.Pm
set_option maxRecDepth 4000
def zI : TI := ⟨.i .i64, 1, 8, [.int .i64 0]⟩
theorem takes_is (w : Int) (l : List Int) (hl : l.length ≤ 100000) : Is Try.prog 157 [vI .i64 w, .c (.sl 1 (l.map iC))] (vB (takesB w l)) := by
  have c := agree_is (w :: l) (by rw [List.length_cons]; unfold Big; omega)
  unfold takesB
  generalize agreeL 0 (w :: l) = p at c
  refine Is.of TP Try.func157 rfl rfl (Nat.le_of_ble_eq_true rfl) fun st => Pw.of TP [1000009] ?_
  conv => whnf
  intro id hid
  conv => whnf
  have hg : Grow st 1 (upd st id (.ar 1 [iC w])) (.arr id 0 1) ([w].map iC) := ⟨.upd hid, .inr ⟨id, rfl, upd_same _ _ _, hid⟩⟩
  refine Grow.app (z := zI) hg (by simp [maxLen]; omega) (by simp [zI]; omega) fun a s hg' _ => ?_
  conv => whnf
  refine Does.grow (xs := []) (sz := 1) (rows := (w :: l).map iC) hg' (iC_row _) (Is.callT c fun x y e => ?_)
  conv => whnf
  refine Fin.old ?_ (.refl _)
  rw [e]; rfl
theorem called_is (nm : ByteArray) (l : List Int) (hl : l.length ≤ 100000) : Is Try.prog 135 [vS nm, .c (.sl 1 (l.map iC))] (tbR (tcalled nm l)) := by
  have c := agree_is l (by unfold Big; omega)
  refine Is.of TP Try.func135 rfl rfl (Nat.le_of_ble_eq_true rfl) fun st => Pw.of TP [] ?_
  conv => whnf
  repeat' (first | (refine ⟨fun h => ?_, fun h => ?_⟩ <;> conv => whnf) | (refine Is.callB (takes_is _ l hl) fun b hb => ?_; conv => whnf) | (refine Is.callT c fun x y e => ?_; conv => whnf))
  all_goals refine Fin.tb ?_ (.refl _)
  all_goals (unfold tcalled; simp only [lengthS, absS]; repeat' split)
  all_goals first | (exfalso; simp_all; done) | (simp_all; done)
theorem signed_is (k op : Int) (v : Val) (nm : ByteArray) (kids : List Ex) (l : List Int) (hl : l.length ≤ 100000) : Is Try.prog 136 [.g (eE (.mk k op v nm kids)), .c (.sl 1 (l.map iC))] (tbR (tsigned k op l)) := by
  have c := agree_is l (by unfold Big; omega)
  refine Is.of TP Try.func136 rfl rfl (Nat.le_of_ble_eq_true rfl) fun st => Pw.of TP [] ?_
  conv => whnf
  repeat' (first | (refine ⟨fun h => ?_, fun h => ?_⟩ <;> conv => whnf) | (refine Is.callB (takes_is _ l hl) fun b hb => ?_; conv => whnf) | (refine Is.callT c fun x y e => ?_; conv => whnf))
  all_goals refine Fin.tb ?_ (.refl _)
  all_goals (unfold tsigned; repeat' split)
  all_goals first | rfl | (exfalso; omega) | (simp_all; done)
set_option maxHeartbeats 2000000 in
theorem made_is (k op : Int) (v : Val) (nm : ByteArray) (kids : List Ex) (l : List Int) (hl : l.length ≤ 100000) (h6 : k = 6 → 1 ≤ l.length) : Is Try.prog 107 [.g (eE (.mk k op v nm kids)), .c (.sl 1 (l.map iC))] (tbR (tmade k op nm l)) := by
  refine Is.of TP Try.func107 rfl rfl (Nat.le_of_ble_eq_true rfl) fun st => Pw.of TP [] ?_
  conv => whnf
  refine ⟨fun h => ?_, fun h => ?_⟩ <;> conv => whnf
  · have hn := h6 h
    have e1 : tmade k op nm l = if (l.drop 1).all (fun x => (agreeL 0 [l.headD 0, x]).2) = true then (2, true) else (0, false) := by unfold tmade; rw [if_pos h]
    rw [e1]
    obtain ⟨t0, m, rfl⟩ : ∃ t0 m, l = t0 :: m := by
      cases l with
      | nil => simp at hn
      | cons a m => exact ⟨a, m, rfl⟩
    refine ⟨by decide, by simp; omega, Int.le_refl _, ?_⟩
    conv => whnf
    have hlm : m.length ≤ 100000 := by simp at hl; omega
    have hc : ∀ y, Is Try.prog 134 [.c (.sl 1 ([t0, y].map iC))] (tbR (agreeL 0 [t0, y])) := fun y => agree_is [t0, y] (Nat.le_of_ble_eq_true rfl)
    have es : List.drop (1 : Int).toNat (List.take (((t0 :: m).map iC).length : Int).toNat ((t0 :: m).map iC)) = m.map iC := by rw [Int.toNat_natCast, List.take_length]; rfl
    refine Pw.rng (τ := Unit) 23 m.length (by unfold Big; omega) [1] (fun _ => [(21, .c (.sl 1 (m.map iC))), (22, vI .i64 ((m.map iC).length : Nat))]) (fun i _ => ∀ x ∈ m.take i, (agreeL 0 [t0, x]).2 = true) () rfl ⟨congrArg (fun r => some (AV.c (AC.sl 1 r))) es, congrArg (fun r => some (vI .i64 (List.length r : Nat))) es, trivial⟩ (fun t h => by simp at h) fun i _ hi hx => Pw.of TP [] ?_
    conv => whnf
    refine ⟨fun h => ?_, fun h => ?_⟩ <;> conv => whnf
    · have hi' : i < m.length := lt_map h
      have hnext : (agreeL 0 [t0, m[i]]).2 = true → ∀ x ∈ m.take (i + 1), (agreeL 0 [t0, x]).2 = true := fun h2 x h => by
        rw [List.take_succ_eq_append_getElem hi'] at h
        rcases List.mem_append.1 h with h | h
        · exact hx x h
        · simp at h; subst h; exact h2
      have hstop : (agreeL 0 [t0, m[i]]).2 = false → m.all (fun x => (agreeL 0 [t0, x]).2) = false := fun h2 => all_at hi' h2
      refine ixm hi' ?_
      conv => whnf
      refine ⟨by decide, by simp, _, rfl, ?_⟩
      conv => whnf
      refine Is.callT (hc (m[i]'hi')) fun x b e => ?_
      cases b <;> conv => whnf
      · exact Fin.tb (by rw [show (List.drop 1 (t0 :: m)) = m from rfl, show (t0 :: m).headD 0 = t0 from rfl, hstop (by rw [e])]; rfl) (.refl _)
      · exact ⟨hi', rfl, ⟨rfl, trivial⟩, (), ⟨rfl, rfl, trivial⟩, .refl _, hnext (by rw [e])⟩
    · have hi' := nlt_map h hi
      subst hi'
      rw [List.take_length] at hx
      exact Fin.tb (by rw [show (List.drop 1 (t0 :: m)) = m from rfl, show (t0 :: m).headD 0 = t0 from rfl, List.all_eq_true.2 hx]; rfl) (.refl _)
  · repeat' (first | (refine ⟨fun h => ?_, fun h => ?_⟩ <;> conv => whnf) | (refine Is.callT (called_is _ l hl) fun x y e => ?_; conv => whnf) | (refine Is.callT (signed_is _ _ _ _ _ l hl) fun x y e => ?_; conv => whnf))
    all_goals refine Fin.tb ?_ (.refl _)
    all_goals (unfold tmade; repeat' split)
    all_goals first | rfl | (exfalso; omega) | (simp_all; done)
end Go.Proofs.Ytbmgenifdlgbmaa.D
namespace Go.Proofs.Ytbmgenifdlgbmaa.D
set_option linter.unusedVariables false
set_option linter.unusedSimpArgs false
open Go Go.Proofs.Ytbmgenifdlgbmaa.D.Pm
set_option maxRecDepth 4000
theorem kinds16_is (l : List Val) (hl : l.length ≤ 100000) : Is Try.prog 50 [.c (.sl 3 (l.map eV))] (.c (.sl 1 ((l.map (·.k)).map iC))) := by
  refine Is.of TP Try.func50 rfl rfl (Nat.le_of_ble_eq_true rfl) fun st => Pw.of TP [] ?_
  conv => whnf
  refine Pw.rngS (τ := AC × Sto) 8 (l.map eV).length (by simp; unfold Big; omega) [0, 6, 7] (fun _ y => [(3, .c y.1)]) (fun _ y => y.2) (fun i y => Grow st 1 y.2 y.1 (((l.take i).map (·.k)).map iC)) (.v (.slice none 0 0), st) rfl ⟨rfl, trivial⟩ (.refl _) (.nil (.refl _)) fun i y hi hg => Pw.of TP [] ?_
  obtain ⟨a, s⟩ := y
  simp only at hg ⊢
  conv => whnf
  refine ⟨fun h => ?_, fun h => ?_⟩ <;> conv => whnf
  · have hi' : i < l.length := lt_map h
    have es : ((l.take (i + 1)).map (·.k)).map iC = ((l.take i).map (·.k)).map iC ++ [iC l[i].k] := by rw [List.take_succ_eq_append_getElem hi', List.map_append, List.map_append]; rfl
    have e7 : (((l.take i).map (·.k)).map iC).length ≤ l.length := by simp; omega
    refine ixm hi' ?_
    conv => whnf
    refine Grow.app (z := zI) hg (by unfold maxLen; simp; omega) (by simp [zI]; omega) fun a' s' hg' hk' => ?_
    conv => whnf
    exact ⟨by simpa using hi', rfl, ⟨rfl, rfl, rfl, trivial⟩, (a', s'), ⟨rfl, trivial⟩, .refl _, by rw [es]; exact hg'⟩
  · have hi' := nlt_map h (by simpa using hi)
    subst hi'
    rw [List.take_length] at hg
    exact Fin.grow hg (iC_row _) ⟨rfl, rfl⟩
def firstErr : List (Int × Int) → Int
  | [] => 0
  | p :: r => if p.2 ≠ 0 then p.2 else firstErr r
theorem firstErr_at {l : List (Int × Int)} {i : Nat} (h : i < l.length) (h0 : ∀ p ∈ l.take i, p.2 = 0) (h1 : l[i].2 ≠ 0) : firstErr l = l[i].2 := by
  induction l generalizing i with
  | nil => simp at h
  | cons a l ih =>
    cases i with
    | zero => rw [firstErr]; exact if_pos h1
    | succ i =>
      rw [firstErr, if_neg (by have := h0 a (by simp); omega)]
      exact ih (by simpa using h) (fun p hp => h0 p (by simp [hp])) h1
theorem firstErr_no {l : List (Int × Int)} (h0 : ∀ p ∈ l, p.2 = 0) : firstErr l = 0 := by
  induction l with
  | nil => rfl
  | cons a l ih => rw [firstErr, if_neg (by have := h0 a (by simp); omega)]; exact ih fun p hp => h0 p (by simp [hp])
mutual
def typE (cs ps : List Int) : Ex → Int × Int
  | .mk k op v nm kids => if k = 1 then (v.k, 0) else if k = 8 then tone cs op else if k = 3 then tone ps (IntKind.i64.wrap (op - 1)) else if k = 2 then (0, 4)
    else if firstErr (typEs cs ps kids) ≠ 0 then (0, firstErr (typEs cs ps kids)) else if (tmade k op nm ((typEs cs ps kids).map (·.1))).2 = false then (0, 11) else ((tmade k op nm ((typEs cs ps kids).map (·.1))).1, 0)
def typEs (cs ps : List Int) : List Ex → List (Int × Int)
  | [] => []
  | e :: l => typE cs ps e :: typEs cs ps l
end
theorem typEs_map {cs ps : List Int} : ∀ l, typEs cs ps l = l.map (typE cs ps)
  | [] => rfl
  | e :: l => by rw [typEs, List.map_cons, typEs_map l]
def eTy (cs ps : List Int) : List AC := [.sl 1 (cs.map iC), .sl 1 (ps.map iC)]
theorem typ_is (cs ps : List Int) : ∀ e, okE e → nodes e ≤ 10000 → allE (rightE true) e = true → Is Try.prog 55 [.g (eTy cs ps), .g (eE e)] (nfR (typE cs ps e)) := by
  refine Ex.ind fun k op v nm kids ih ok hn ha => ?_
  rw [nodes] at hn
  rw [allE, Bool.and_eq_true, allEs_all, List.all_eq_true] at ha
  obtain ⟨ha1, ha2⟩ := ha
  have hlk : kids.length ≤ nodesL kids := by
    have : ∀ l : List Ex, l.length ≤ nodesL l := fun l => by
      induction l with
      | nil => exact Nat.le_refl _
      | cons e l ih => rw [nodesL, List.length_cons]; have : 1 ≤ nodes e := by cases e; rw [nodes]; omega
                       omega
    exact this kids
  have h6 : k = 6 → 1 ≤ kids.length := fun e => by subst e; simp [rightE] at ha1; omega
  have ihk : ∀ e ∈ kids, Is Try.prog 55 [.g (eTy cs ps), .g (eE e)] (nfR (typE cs ps e)) := fun e he => ih e he (okEs_all ok.2.2.2 e he) (by have := nodes_mem he; omega) (ha2 e he)
  have cm := fun l hl h => made_is k op v nm kids l hl h
  clear ih
  rw [typE]
  refine Is.of TP Try.func55 rfl rfl (Nat.le_of_ble_eq_true rfl) fun st => Pw.of TP [] ?_
  conv => whnf
  refine ⟨fun h => ?_, fun h => ?_⟩ <;> conv => whnf
  · exact Fin.nf (by rw [if_pos h]) (.refl _)
  rw [if_neg h]
  refine ⟨fun h => ?_, fun h => ?_⟩ <;> conv => whnf
  · refine Is.callN (tone_is _ _) fun x y e => ?_
    conv => whnf
    exact Fin.nf (by rw [if_pos ‹_›, e]) (.refl _)
  rw [if_neg ‹¬ k = 8›]
  refine ⟨fun h => ?_, fun h => ?_⟩ <;> conv => whnf
  · refine Is.callN (tone_is _ _) fun x y e => ?_
    conv => whnf
    exact Fin.nf (by rw [if_pos ‹_›, e]) (.refl _)
  rw [if_neg ‹¬ k = 3›]
  refine ⟨fun h => ?_, fun h => ?_⟩ <;> conv => whnf
  · exact Fin.nf (by rw [if_pos ‹_›]) (.refl _)
  rw [if_neg ‹¬ k = 2›, typEs_map]
  refine Pw.rngS (τ := AC × Sto) 44 kids.length ok.2.2.1 [1, 2, 3, 42, 43] (fun _ y => [(6, .c y.1)]) (fun _ y => y.2) (fun i y => Grow st 1 y.2 y.1 (((kids.take i).map (fun e => (typE cs ps e).1)).map iC) ∧ ∀ e ∈ kids.take i, (typE cs ps e).2 = 0) (.v (.slice none 0 0), st) rfl ⟨rfl, trivial⟩ (.refl _) ⟨.nil (.refl _), fun e h => by simp at h⟩ fun i y hi hx => Pw.of TP [] ?_
  obtain ⟨a, s⟩ := y
  obtain ⟨hg, hz⟩ := hx
  simp only at hg hz ⊢
  conv => whnf
  refine ⟨fun h => ?_, fun h => ?_⟩ <;> conv => whnf
  · have hi' := ltE ‹_›
    have key : ∀ F : List AC → Prop, F (eE kids[i]) → 0 ≤ (i : Int) ∧ (i : Int) < ((eEs kids).length : Nat) ∧ ∃ r, (eEs kids)[(i : Int).toNat]? = some r ∧ F r := fun F hF => ixE hi' hF
    have hm := ihk _ (List.getElem_mem hi')
    have es : ((kids.take (i + 1)).map (fun e => (typE cs ps e).1)).map iC = ((kids.take i).map (fun e => (typE cs ps e).1)).map iC ++ [iC (typE cs ps kids[i]).1] := by rw [List.take_succ_eq_append_getElem hi', List.map_append, List.map_append]; rfl
    have hnext : (typE cs ps kids[i]).2 = 0 → ∀ e ∈ kids.take (i + 1), (typE cs ps e).2 = 0 := fun h2 e he => by
      rw [List.take_succ_eq_append_getElem hi'] at he
      rcases List.mem_append.1 he with he | he
      · exact hz e he
      · simp at he; subst he; exact h2
    have hstop : (typE cs ps kids[i]).2 ≠ 0 → firstErr (kids.map (typE cs ps)) = (typE cs ps kids[i]).2 := fun h2 => by
      have := firstErr_at (l := kids.map (typE cs ps)) (i := i) (by simpa using hi') (fun p hp => by
        rw [← List.map_take] at hp
        obtain ⟨e, he, rfl⟩ := List.mem_map.1 hp
        exact hz e he) (by simpa using h2)
      simpa using this
    have e7 : (((kids.take i).map (fun e => (typE cs ps e).1)).map iC).length ≤ kids.length := by simp; omega
    generalize kids[i] = e at key hm es hnext hstop
    generalize typE cs ps e = p at hm es hnext hstop
    refine key _ ?_
    cases e
    conv => whnf
    obtain ⟨x, f⟩ := p
    refine Is.call hm ?_
    conv => whnf
    refine ⟨fun h => ?_, fun h => ?_⟩ <;> conv => whnf
    · have := hstop h
      dsimp only at this
      refine Fin.nf ?_ hg.1
      rw [this, if_pos h]
    · refine Grow.app (z := zI) hg (by unfold maxLen; simp; omega) (by simp [zI]; omega) fun a' s' hg' hk' => ?_
      conv => whnf
      exact ⟨hi', rfl, ⟨rfl, rfl, rfl, rfl, rfl, trivial⟩, (a', s'), ⟨rfl, trivial⟩, .refl _, by rw [es]; exact hg', hnext (by dsimp only at *; omega)⟩
  · obtain rfl := nltE ‹_› hi
    rw [List.take_length] at hg hz
    have c := cm (kids.map fun e => (typE cs ps e).1) (by rw [List.length_map]; omega) (by rw [List.length_map]; exact h6)
    have e1 : (kids.map (typE cs ps)).map (·.1) = kids.map fun e => (typE cs ps e).1 := by rw [List.map_map]; rfl
    rw [firstErr_no (l := kids.map (typE cs ps)) (fun p hp => by obtain ⟨e, he, rfl⟩ := List.mem_map.1 hp; exact hz e he), if_neg (by decide), e1]
    generalize tmade k op nm (kids.map fun e => (typE cs ps e).1) = q at c
    obtain ⟨x, b⟩ := q
    refine Does.grow (xs := [.g (eE (.mk k op v nm kids))]) hg (iC_row _) (Is.call c ?_)
    cases b <;> conv => whnf
    · exact Fin.nf (by rw [if_pos rfl]) (.refl _)
    · exact Fin.nf (by rw [if_neg (fun h => by cases h)]) (.refl _)
def typTop (cs ps : List Int) (e : Ex) : Int × Int := if checkE true e ≠ 0 then (0, (checkE true e : Nat)) else typE cs ps e
theorem Type_is (cs ps : List Int) (e : Ex) (ok : okE e) (hn : nodes e ≤ 10000) : Is Try.prog 16 [.g (eE e), .c (.sl 1 (cs.map iC)), .c (.sl 1 (ps.map iC))] (nfR (typTop cs ps e)) := by
  have h1 := check_is e ok true
  have h2 := typ_is cs ps e ok hn
  have h3 : checkE true e = 0 → allE (rightE true) e = true := check0
  unfold typTop
  generalize checkE true e = c at h1 h3
  cases e
  refine Is.of TP Try.func16 rfl rfl (Nat.le_of_ble_eq_true rfl) fun st => Pw.of TP [] ?_
  conv => whnf
  refine Is.callI h1 fun c' hc' => ?_
  subst hc'
  conv => whnf
  refine ⟨fun h => ?_, fun h => ?_⟩ <;> conv => whnf
  · exact Fin.nf (by rw [if_pos (by omega)]) (.refl _)
  · have hc0 : c = 0 := by omega
    refine Is.callN (h2 (h3 hc0)) fun x y e => ?_
    conv => whnf
    exact Fin.nf (by rw [if_neg (by omega), e]) (.refl _)
end Go.Proofs.Ytbmgenifdlgbmaa.D
namespace Go.Proofs.Ytbmgenifdlgbmaa.D
set_option linter.unusedVariables false
set_option linter.unusedSimpArgs false
open Go Go.Proofs.Ytbmgenifdlgbmaa.D.Pm
set_option maxRecDepth 4000
theorem agreeL_ok : ∀ (l : List Int) (t : Int), (agreeL t l).2 = true → (t ≠ 0 → (agreeL t l).1 = t) ∧ ∀ x ∈ l, x = 0 ∨ x = (agreeL t l).1
  | [], t, h => ⟨fun _ => rfl, fun x hx => by cases hx⟩
  | a :: l, t, h => by
    rw [agreeL] at h ⊢
    split at h
    · cases h
    · rename_i hc
      rw [if_neg hc]
      obtain ⟨h1, h2⟩ := agreeL_ok l _ h
      by_cases ht : t = 0
      · subst ht
        rw [if_pos rfl] at h1 h2 ⊢
        refine ⟨fun h => absurd rfl h, fun x hx => ?_⟩
        rcases List.mem_cons.1 hx with rfl | hx
        · by_cases hx0 : x = 0
          · exact .inl hx0
          · exact .inr (h1 hx0).symm
        · exact h2 x hx
      · rw [if_neg ht] at h1 h2 ⊢
        refine ⟨h1, fun x hx => ?_⟩
        rcases List.mem_cons.1 hx with rfl | hx
        · rw [h1 ht]; omega
        · exact h2 x hx
theorem takes_ok {w : Int} {l : List Int} (h : takesB w l = true) (hw : w ≠ 0) : ∀ x ∈ l, x = 0 ∨ x = w := fun x hx => by
  unfold takesB at h
  rw [agreeL, if_neg (by omega), if_pos rfl] at h
  obtain ⟨h1, h2⟩ := agreeL_ok l w h
  rw [h1 hw] at h2
  exact h2 x hx
/-- of that type, or nothing, or it can't be told -/
def Ty (t : Int) (p : Val × Int) : Prop := (p.2 = 0 → p.1.k = t ∨ p.1.k = 0) ∧ (p.2 ≠ 0 → p.2 = 10 ∨ p.2 = 3)
theorem Ty.nil (t : Int) : Ty t (zV, 0) := ⟨fun _ => .inr rfl, fun h => absurd rfl h⟩
theorem Ty.err {t t' : Int} {p : Val × Int} (h : Ty t p) (h0 : p.2 ≠ 0) : Ty t' (zV, p.2) := ⟨fun h => absurd h h0, h.2⟩
theorem Ty.val (t : Int) : Ty 2 (tval t, 0) := ⟨fun _ => by unfold tval; split; exact .inl rfl; exact .inr rfl, fun h => absurd rfl h⟩
theorem Ty.known {t f : Int} (h : f = 0) : Ty 2 (eknown t f) := by subst h; exact .val t
theorem res2 (x : Int) : (res x).2 = 0 ∨ (res x).2 = 10 := by unfold res; split <;> simp
theorem Ty.whole {n f : Int} (h : f = 0 ∨ f = 10) : Ty 1 (ewhole n f) := by
  rcases h with rfl | rfl
  · exact ⟨fun _ => .inl rfl, fun h => absurd rfl h⟩
  · exact ⟨(fun h => by cases h), fun _ => .inl rfl⟩
theorem tof_ok {v : Val} (h : v.k = 2 ∨ v.k = 0) : (tof v).2 = 0 := by
  unfold tof
  repeat' split
  all_goals first | rfl | omega
theorem Ty.un1 {t : Int} {p : Val × Int} (h : Ty t p) (ht : t = 0 ∨ t = 1) : Ty 1 (eun 1 p) := by
  unfold eun
  split
  · exact h.err ‹_›
  rw [if_neg (by omega)]
  split
  · exact .nil _
  rw [if_neg (by omega)]
  split
  · have := h.1 (by omega); omega
  · exact .whole (res2 _)
theorem Ty.un2 {t : Int} {p : Val × Int} (h : Ty t p) (ht : t = 0 ∨ t = 2) : Ty 2 (eun 2 p) := by
  unfold eun
  split
  · exact h.err ‹_›
  rw [if_neg (by omega)]
  split
  · exact .nil _
  rw [if_pos rfl]
  exact .known (tof_ok (by have := h.1 (by omega); omega))
theorem Ty.un34 {t op : Int} {p : Val × Int} (h : Ty t p) (ho : op = 3 ∨ op = 4) : Ty 2 (eun op p) := by
  unfold eun
  split
  · exact h.err ‹_›
  split
  · exact .val _
  · exact .val _
theorem compare_ok {op t : Int} {a b : Val} (ho : 3 ≤ op ∧ op ≤ 8) (ha : a.k = t ∨ a.k = 0) (hb : b.k = t ∨ b.k = 0) (ht : 0 ≤ t ∧ t ≤ 3) : (vcompare op a b).2 = 0 := by
  unfold vcompare
  have h1 : vknown a = true := by unfold vknown; simp; omega
  have h2 : vknown b = true := by unfold vknown; simp; omega
  rw [if_neg (by rw [h1, h2]; simp; omega)]
  split
  · rfl
  rw [if_neg (by omega)]
  split <;> rfl
theorem ints2 (op a b : Int) : (vints op a b).2 = 0 ∨ (vints op a b).2 = 10 := by
  unfold vints
  repeat' split
  · exact res2 _
  · exact res2 _
  · exact res2 _
  · unfold nover; split
    · exact .inr rfl
    · exact res2 _
  · unfold nrest; repeat' split
    · exact .inr rfl
    · exact .inr rfl
    · exact .inl rfl
theorem Ty.math1 {op : Int} {a b : Val} (ho : 9 ≤ op ∧ op ≤ 13) (ha : a.k = 1 ∨ a.k = 0) (hb : b.k = 1 ∨ b.k = 0) : Ty 1 (vmath op a b) := by
  have hk : vtakes op = 1 := by unfold vtakes; rw [if_pos (by omega)]
  unfold vmath
  rw [hk, if_neg (by omega)]
  split
  · exact .nil _
  rw [if_neg (by omega)]
  split
  · rename_i h
    exact ⟨fun h2 => absurd h2 h, fun _ => (ints2 op a.n b.n).elim (fun h2 => absurd h2 h) .inl⟩
  · exact ⟨fun _ => .inl rfl, fun h => absurd rfl h⟩
theorem Ty.math3 {a b : Val} (ha : a.k = 3 ∨ a.k = 0) (hb : b.k = 3 ∨ b.k = 0) : Ty 3 (vmath 14 a b) := by
  have hk : vtakes 14 = 3 := rfl
  unfold vmath
  rw [hk, if_neg (by omega)]
  split
  · exact .nil _
  rw [if_pos rfl]
  split
  · exact ⟨(fun h => by cases h), fun _ => .inr rfl⟩
  · exact ⟨fun _ => .inl rfl, fun h => absurd rfl h⟩
theorem Ty.bothL {e : Int} : ∀ (l : List (Val × Int)) (o : Int), (∀ p ∈ l, Ty 2 p) → Ty 2 (ebothL e o l)
  | [], o, h => .val o
  | p :: l, o, h => by
    have hp := h p (List.mem_cons_self ..)
    rw [ebothL_cons]
    split
    · exact hp.err ‹_›
    rw [if_neg (by rw [tof_ok (hp.1 (by omega))]; simp)]
    split
    · exact .val _
    · exact Ty.bothL l _ fun q hq => h q (List.mem_cons_of_mem _ hq)
theorem Ty.inL {t : Int} {x : Val} (hx : x.k = t ∨ x.k = 0) (ht : 0 ≤ t ∧ t ≤ 3) (hn : x.k ≠ 0) : ∀ (l : List (Val × Int)) (o : Int), (∀ p ∈ l, Ty t p ∨ Ty 0 p) → Ty 2 (einL x o l)
  | [], o, h => .val o
  | p :: l, o, h => by
    have hp := h p (List.mem_cons_self ..)
    rw [einL_cons]
    split
    · rcases hp with hp | hp <;> exact hp.err ‹_›
    rw [if_neg (by
      rw [compare_ok (t := t) (by decide) hx (by
        rcases hp with hp | hp
        · exact hp.1 (by omega)
        · have := hp.1 (by omega); omega) ht]; simp)]
    split
    · exact .val _
    · exact Ty.inL hx ht hn l _ fun q hq => h q (List.mem_cons_of_mem _ hq)
theorem Ty.coal {t : Int} : ∀ (l : List (Val × Int)), (∀ p ∈ l, Ty t p ∨ Ty 0 p) → Ty t (ecoal l)
  | [], h => .nil t
  | p :: l, h => by
    have hp := h p (List.mem_cons_self ..)
    unfold ecoal
    split
    · rename_i hc
      rcases hp with hp | hp
      · exact hp
      · refine ⟨fun h0 => ?_, hp.2⟩
        have := hp.1 h0
        omega
    · exact Ty.coal l fun q hq => h q (List.mem_cons_of_mem _ hq)
theorem Ty.len {nm : ByteArray} {p : Val × Int} {t : Int} (c : nm = lengthS) (h : Ty t p) (ht : t = 0 ∨ t = 3) : Ty 1 (if p.2 ≠ 0 ∨ p.1.k = 0 then (zV, p.2) else if nm = lengthS ∧ p.1.k = 3 then ewhole p.1.s.size 0 else if nm = absS ∧ p.1.k = 1 then ewhole (nsize p.1.n).1 (nsize p.1.n).2 else (zV, 11)) := by
  by_cases q0 : p.2 = 0
  · by_cases q1 : p.1.k = 0
    · rw [if_pos (.inr q1), q0]; exact .nil _
    · have := h.1 q0
      rw [if_neg (by omega), if_pos ⟨c, by omega⟩]
      exact .whole (.inl rfl)
  · rw [if_pos (.inl q0)]; exact h.err q0
theorem Ty.abs {nm : ByteArray} {p : Val × Int} {t : Int} (c : ¬ nm = lengthS) (c' : nm = absS) (h : Ty t p) (ht : t = 0 ∨ t = 1) : Ty 1 (if p.2 ≠ 0 ∨ p.1.k = 0 then (zV, p.2) else if nm = lengthS ∧ p.1.k = 3 then ewhole p.1.s.size 0 else if nm = absS ∧ p.1.k = 1 then ewhole (nsize p.1.n).1 (nsize p.1.n).2 else (zV, 11)) := by
  by_cases q0 : p.2 = 0
  · by_cases q1 : p.1.k = 0
    · rw [if_pos (.inr q1), q0]; exact .nil _
    · have := h.1 q0
      rw [if_neg (by omega), if_neg (fun h => c h.1), if_pos ⟨c', by omega⟩]
      refine .whole ?_
      unfold nsize
      split
      · exact res2 _
      · exact .inl rfl
  · rw [if_pos (.inl q0)]; exact h.err q0
/-- what has a type, over a row that may have nothing where its types have something -/
theorem sound {row row' ps : List Val} (hlen : row'.length = row.length) (hr : ∀ (i : Nat) (h : i < row.length) (h' : i < row'.length), row'[i].k = row[i].k ∨ row'[i].k = 0) :
    ∀ e, allE (rightE true) e = true → ∀ t, typE (row.map (·.k)) (ps.map (·.k)) e = (t, 0) → (0 ≤ t ∧ t ≤ 3) ∧ Ty t (evalE row' ps e) := by
  refine Ex.ind fun k op v nm kids ih ha t ht => ?_
  rw [allE, Bool.and_eq_true, allEs_all, List.all_eq_true] at ha
  obtain ⟨ha1, ha2⟩ := ha
  rw [typE] at ht
  rw [evalE]
  by_cases k1 : k = 1
  · subst k1
    rw [if_pos rfl] at ht ⊢
    cases ht
    refine ⟨?_, fun _ => .inl rfl, fun h => absurd rfl h⟩
    have : vright v = true := by simp [rightE] at ha1; exact ha1.2.2.1
    unfold vright at this
    repeat' split at this
    all_goals first | omega | cases this
  rw [if_neg k1] at ht ⊢
  have one : ∀ (l l' : List Val) (n : Int), l'.length = l.length → (∀ (i : Nat) (h : i < l.length) (h' : i < l'.length), l'[i].k = l[i].k ∨ l'[i].k = 0) → tone (l.map (·.k)) n = (t, 0) → (0 ≤ t ∧ t ≤ 3) ∧ Ty t (eone l' n) := by
    intro l l' n e1 e2 h
    unfold tone at h
    split at h
    · rename_i t0 hq
      split at h
      · cases h
      · split at h
        · cases h
        · cases h
          have hlt : n.toNat < l.length := by
            have := (List.getElem?_eq_some_iff.1 hq).1
            simpa using this
          have hlt' : n.toNat < l'.length := by omega
          have hk : l[n.toNat].k = t := by
            rw [List.getElem?_map, List.getElem?_eq_getElem hlt] at hq
            simpa using hq
          refine ⟨by omega, ?_⟩
          unfold eone
          rw [List.getElem?_eq_getElem hlt']
          dsimp only
          rw [if_neg (by omega)]
          refine ⟨fun _ => ?_, fun h => absurd rfl h⟩
          have := e2 _ hlt hlt'
          rw [hk] at this
          exact this
    · cases h
  by_cases k8 : k = 8
  · rw [if_pos k8] at ht ⊢
    exact one row row' op hlen hr ht
  rw [if_neg k8] at ht ⊢
  by_cases k3 : k = 3
  · rw [if_pos k3] at ht ⊢
    exact one ps ps _ rfl (fun i h h' => .inl rfl) ht
  rw [if_neg k3] at ht ⊢
  split at ht
  · cases ht
  rename_i k2
  split at ht
  · rename_i h1; simp only [Prod.mk.injEq] at ht; exact absurd ht.2 h1
  rename_i hfe
  split at ht
  · cases ht
  rename_i hmk
  -- the kids
  have hk0 : ∀ e ∈ kids, (typE (row.map (·.k)) (ps.map (·.k)) e).2 = 0 := by
    have : ∀ l : List Ex, firstErr (typEs (row.map (·.k)) (ps.map (·.k)) l) = 0 → ∀ e ∈ l, (typE (row.map (·.k)) (ps.map (·.k)) e).2 = 0 := fun l => by
      induction l with
      | nil => intro _ e he; cases he
      | cons a l ih2 =>
        intro h e he
        rw [typEs, firstErr] at h
        split at h
        · rename_i h2; exact absurd h h2
        · rename_i h2
          rcases List.mem_cons.1 he with rfl | he
          · omega
          · exact ih2 h e he
    exact this kids (by omega)
  have hkt : ∀ e ∈ kids, Ty (typE (row.map (·.k)) (ps.map (·.k)) e).1 (evalE row' ps e) ∧ 0 ≤ (typE (row.map (·.k)) (ps.map (·.k)) e).1 ∧ (typE (row.map (·.k)) (ps.map (·.k)) e).1 ≤ 3 := fun e he => by
    have := ih e he (ha2 e he) _ (by rw [← hk0 e he])
    exact ⟨this.2, this.1⟩
  clear ih
  rw [typEs_map, List.map_map] at ht hmk
  rw [evalEs_map]
  generalize hT : (fun e => (typE (row.map (·.k)) (ps.map (·.k)) e).1) = T at *
  have hT2 : ∀ e, (typE (row.map (·.k)) (ps.map (·.k)) e).1 = T e := fun e => congrFun hT e
  have hT3 : (kids.map ((fun x => x.1) ∘ typE (row.map (·.k)) (ps.map (·.k)))) = kids.map T := List.map_congr_left fun e _ => hT2 e
  rw [hT3] at ht hmk
  simp only [hT2] at hkt
  clear hk0 hfe
  generalize evalE row' ps = V at *
  have hmk : (tmade k op nm (kids.map T)).2 = true := by simpa using hmk
  cases ht
  by_cases k4 : k = 4
  · subst k4
    have hx : kids.length = 1 ∧ 1 ≤ op ∧ op ≤ 4 := by simp [rightE] at ha1; omega
    obtain ⟨hl, ho⟩ := hx
    obtain ⟨kid, rfl⟩ : ∃ kid, kids = [kid] := by match kids, hl with | [a], _ => exact ⟨a, rfl⟩
    focus
      obtain ⟨h1, h2⟩ := hkt kid (by simp)
      have e1 : tmade 4 op nm [T kid] = tsigned 4 op [T kid] := by simp [tmade]
      simp only [List.map_cons, List.map_nil] at hmk ⊢
      rw [e1] at hmk ⊢
      rw [if_pos trivial]
      show _ ∧ Ty _ (eun op (V kid))
      unfold tsigned at hmk ⊢
      by_cases o34 : op = 3 ∨ op = 4
      · rw [if_pos ⟨rfl, o34⟩]
        exact ⟨by dsimp only; decide, h1.un34 o34⟩
      · rw [if_neg (by omega)] at hmk ⊢
        by_cases o2 : op = 2
        · subst o2
          rw [if_pos (.inl ⟨rfl, rfl⟩)] at hmk ⊢
          exact ⟨by dsimp only; decide, h1.un2 (takes_ok hmk (by decide) _ (by simp))⟩
        · have o1 : op = 1 := by omega
          subst o1
          rw [if_neg (by omega), if_neg (by omega), if_neg (by omega)] at hmk ⊢
          exact ⟨by dsimp only; decide, h1.un1 (takes_ok hmk (by decide) _ (by simp))⟩
  rw [if_neg k4]
  by_cases k5 : k = 5
  · subst k5
    have hx : kids.length = 2 ∧ 1 ≤ op ∧ op ≤ 14 := by simp [rightE] at ha1; omega
    obtain ⟨hl, ho⟩ := hx
    obtain ⟨k1, k2, rfl⟩ : ∃ k1 k2, kids = [k1, k2] := by match kids, hl with | [a, b], _ => exact ⟨a, b, rfl⟩
    focus
      obtain ⟨h1, h2⟩ := hkt k1 (by simp)
      obtain ⟨h3, h4⟩ := hkt k2 (by simp)
      have e1 : tmade 5 op nm [T k1, T k2] = tsigned 5 op [T k1, T k2] := by simp [tmade]
      simp only [List.map_cons, List.map_nil] at hmk ⊢
      rw [e1] at hmk ⊢
      rw [if_pos trivial]
      show _ ∧ Ty _ (if op ≤ 2 then eboth op [V k1, V k2] else ebin op (V k1) (V k2))
      unfold tsigned at hmk ⊢
      rw [if_neg (by omega)] at hmk ⊢
      have bin : ∀ t, (V k1).2 = 0 → (V k2).2 = 0 → ∀ w, w = (if op ≤ 8 then eknown (vcompare op (V k1).1 (V k2).1).1 (vcompare op (V k1).1 (V k2).1).2 else vmath op (V k1).1 (V k2).1) → Ty t w → Ty t (ebin op (V k1) (V k2)) := fun t e1 e2 w hw ht => by
        unfold ebin
        rw [if_neg (by omega), if_neg (by omega), ← hw]
        exact ht
      have binE : ∀ t, (∀ w, (V k1).2 = 0 → (V k2).2 = 0 → w = (if op ≤ 8 then eknown (vcompare op (V k1).1 (V k2).1).1 (vcompare op (V k1).1 (V k2).1).2 else vmath op (V k1).1 (V k2).1) → Ty t w) → Ty t (ebin op (V k1) (V k2)) := fun t h => by
        by_cases e1 : (V k1).2 = 0
        · by_cases e2 : (V k2).2 = 0
          · exact bin t e1 e2 _ rfl (h _ e1 e2 rfl)
          · unfold ebin; rw [if_neg (by omega), if_pos e2]; exact h3.err e2
        · unfold ebin; rw [if_pos e1]; exact h1.err e1
      by_cases o2 : op ≤ 2
      · rw [if_pos (.inr ⟨rfl, o2⟩)] at hmk ⊢
        rw [if_pos o2]
        have q := takes_ok hmk (by decide)
        refine ⟨by dsimp only; decide, Ty.bothL _ _ fun p hp => ?_⟩
        have ext : ∀ (t : Int) (p : Val × Int), Ty t p → t = 0 ∨ t = 2 → Ty 2 p := fun t p h ht => ⟨fun h0 => by have := h.1 h0; omega, h.2⟩
        rcases List.mem_cons.1 hp with rfl | hp
        · exact ext _ _ h1 (q _ (by simp))
        · rcases List.mem_cons.1 hp with rfl | hp
          · exact ext _ _ h3 (q _ (by simp))
          · cases hp
      rw [if_neg (by omega)] at hmk ⊢
      rw [if_neg o2]
      by_cases o14 : op = 14
      · subst o14
        rw [if_pos ⟨rfl, rfl⟩] at hmk ⊢
        have q := takes_ok hmk (by decide)
        refine ⟨by dsimp only; decide, binE 3 fun w e1 e2 hw => ?_⟩
        rw [hw, if_neg (by decide)]
        have := h1.1 e1
        have := h3.1 e2
        have := q (T k1) (by simp)
        have := q (T k2) (by simp)
        exact Ty.math3 (by omega) (by omega)
      rw [if_neg (by omega)] at hmk ⊢
      by_cases o8 : op ≤ 8
      · rw [if_pos ⟨rfl, o8⟩] at hmk ⊢
        obtain ⟨_, q⟩ := agreeL_ok _ _ hmk
        refine ⟨by dsimp only; decide, binE 2 fun w e1 e2 hw => ?_⟩
        rw [hw, if_pos o8]
        have q1 := h1.1 e1
        have q2 := h3.1 e2
        have q3 := q (T k1) (by simp)
        have q4 := q (T k2) (by simp)
        by_cases z : T k1 = 0
        · exact .known (compare_ok (t := T k2) (by omega) (by omega) (by omega) (by omega))
        · exact .known (compare_ok (t := T k1) (by omega) (by omega) (by omega) (by omega))
      · rw [if_neg (by omega)] at hmk ⊢
        have q := takes_ok hmk (by decide)
        refine ⟨by dsimp only; decide, binE 1 fun w e1 e2 hw => ?_⟩
        rw [hw, if_neg o8]
        have := h1.1 e1
        have := h3.1 e2
        have := q (T k1) (by simp)
        have := q (T k2) (by simp)
        exact Ty.math1 (by omega) (by omega) (by omega)
  rw [if_neg k5]
  by_cases k6 : k = 6
  · subst k6
    have hl : 2 ≤ kids.length := by simp [rightE] at ha1; omega
    obtain ⟨e0, l, rfl⟩ : ∃ e0 l, kids = e0 :: l := by match kids, hl with | a :: l, _ => exact ⟨a, l, rfl⟩
    rw [if_pos rfl]
    obtain ⟨h1, h2⟩ := hkt e0 (List.mem_cons_self ..)
    have e1 : tmade 6 op nm ((e0 :: l).map T) = if (l.map T).all (fun x => (agreeL 0 [T e0, x]).2) = true then (2, true) else (0, false) := by simp [tmade]
    rw [e1] at hmk ⊢
    have hall : (l.map T).all (fun x => (agreeL 0 [T e0, x]).2) = true := by
      split at hmk
      · assumption
      · cases hmk
    rw [if_pos hall]
    refine ⟨by dsimp only; decide, ?_⟩
    rw [List.all_eq_true] at hall
    show Ty 2 (ein (V e0 :: l.map V))
    unfold ein
    dsimp only
    by_cases q0 : (V e0).2 = 0
    · by_cases q1 : (V e0).1.k = 0
      · rw [if_pos (.inr q1), q0]; exact .nil _
      · rw [if_neg (by omega)]
        have hk := h1.1 q0
        refine Ty.inL (t := T e0) (by omega) (by omega) q1 _ _ fun p hp => ?_
        obtain ⟨e, he, rfl⟩ := List.mem_map.1 hp
        obtain ⟨h3, h4⟩ := hkt e (List.mem_cons_of_mem _ he)
        have ha := (agreeL_ok _ _ (hall (T e) (List.mem_map.2 ⟨e, he, rfl⟩))).2
        have q2 := ha (T e0) (by simp)
        have q3 := ha (T e) (by simp)
        by_cases z : T e = 0
        · rw [z] at h3; exact .inr h3
        · have : T e = T e0 := by omega
          rw [this] at h3; exact .inl h3
    · rw [if_pos (.inl q0)]; exact h1.err q0
  rw [if_neg k6]
  by_cases k7 : k = 7
  · subst k7
    rw [if_pos rfl]
    have e1 : tmade 7 op nm (kids.map T) = tcalled nm (kids.map T) := by simp [tmade]
    rw [e1] at hmk ⊢
    have hc : callOk nm kids.length = true := by simp [rightE] at ha1; exact ha1.2
    have n1 : lengthS ≠ coalesceS := by decide
    have n2 : absS ≠ coalesceS := by decide
    have n3 : absS ≠ lengthS := by decide
    unfold callOk at hc
    unfold tcalled at hmk ⊢
    unfold ecall
    by_cases c1 : nm = coalesceS
    · subst c1
      rw [if_neg (Ne.symm n1), if_neg (Ne.symm n2)] at hmk ⊢
      rw [if_pos rfl] at hc ⊢
      obtain ⟨_, q⟩ := agreeL_ok _ _ hmk
      have hne : kids ≠ [] := fun h => by subst h; simp at hc
      refine ⟨?_, Ty.coal _ fun p hp => ?_⟩
      · have hal : ∀ l : List Int, (∀ x ∈ l, 0 ≤ x ∧ x ≤ 3) → ∀ t, 0 ≤ t ∧ t ≤ 3 → 0 ≤ (agreeL t l).1 ∧ (agreeL t l).1 ≤ 3 := fun l => by
          induction l with
          | nil => intro _ t ht; exact ht
          | cons a l ih2 =>
            intro h t ht
            rw [agreeL]
            split
            · decide
            · refine ih2 (fun x hx => h x (List.mem_cons_of_mem _ hx)) _ ?_
              split
              · exact h a (List.mem_cons_self ..)
              · exact ht
        exact hal _ (fun x hx => by obtain ⟨e, he, rfl⟩ := List.mem_map.1 hx; exact (hkt e he).2) 0 (by decide)
      · obtain ⟨e, he, rfl⟩ := List.mem_map.1 hp
        obtain ⟨h3, h4⟩ := hkt e he
        rcases q (T e) (List.mem_map.2 ⟨e, he, rfl⟩) with z | z
        · rw [z] at h3; exact .inr h3
        · rw [z] at h3; exact .inl h3
    · rw [if_neg c1] at hc ⊢
      have hl1 : kids.length = 1 := by
        split at hc
        · have := of_decide_eq_true hc; omega
        · split at hc
          · have := of_decide_eq_true hc; omega
          · cases hc
      obtain ⟨kid, rfl⟩ : ∃ kid, kids = [kid] := by match kids, hl1 with | [a], _ => exact ⟨a, rfl⟩
      obtain ⟨h1, h2⟩ := hkt kid (by simp)
      by_cases c2 : nm = lengthS
      · rw [if_pos c2] at hmk ⊢
        exact ⟨by dsimp only; decide, Ty.len c2 h1 (takes_ok hmk (by decide) (T kid) (by simp))⟩
      · rw [if_neg c2] at hmk hc ⊢
        by_cases c3 : nm = absS
        · rw [if_pos c3] at hmk ⊢
          exact ⟨by dsimp only; decide, Ty.abs c2 c3 h1 (takes_ok hmk (by decide) (T kid) (by simp))⟩
        · rw [if_neg c3] at hc; cases hc
  · exfalso
    simp [rightE, *] at ha1
end Go.Proofs.Ytbmgenifdlgbmaa.D
namespace Go.Proofs.Ytbmgenifdlgbmaa.D
set_option linter.unusedVariables false
set_option linter.unusedSimpArgs false
open Go Go.Proofs.Ytbmgenifdlgbmaa.D.Pm
set_option maxRecDepth 4000
theorem eqE_refl : ∀ e, eqE e e = true := by
  refine Ex.ind fun k op v nm kids ih => ?_
  have : eqEs kids kids = true := by
    clear v
    induction kids with
    | nil => rfl
    | cons a l ih2 => rw [eqEs, ih a (List.mem_cons_self ..), ih2 fun e he => ih e (List.mem_cons_of_mem _ he)]; rfl
  rw [eqE, this]
  simp
theorem few_ok {e : Ex} {n : Int} (h : fewE n e = true) : okE e ∧ (nodes e : Int) ≤ n := by
  unfold fewE at h
  cases hc : cnt e n with
  | none => rw [hc] at h; cases h
  | some m =>
    obtain ⟨h1, h2, h3⟩ := cnt_ok e n m hc
    exact ⟨h1, by omega⟩
theorem okV_of {l : List Val} (h : wfVs l) (hf : fewV l = true) : (∀ v ∈ l, okV v ∧ v.s.size < Big) ∧ l.length ≤ Big := by
  obtain ⟨h1, h2⟩ := fewV_of hf
  refine ⟨fun v hv => ?_, by unfold Big; omega⟩
  have := h2 v hv
  exact ⟨⟨in64_of (h.2 v hv).2.1, by unfold Big; omega⟩, by unfold Big; omega⟩
theorem evalFills_law (e : Ex) (ps : List Val) (we : wfE e) (wp : wfVs ps) : Is Try.prog 9 [.g (eE e), .c (.sl 3 (ps.map eV))] (vB true) := by
  have c1 := few_v [ps] (Nat.le_of_ble_eq_true rfl)
  have c2 := few_is e 60 (by decide)
  have c3 : fewV ps = true → fewE 60 e = true → Is Try.prog 44 [.g (eE e), .c (.sl 3 (ps.map eV))] (fR (fillTop ps e)) := fun h1 h2 => Fill_is (okV_of wp h1).1 (okV_of wp h1).2 e (few_ok h2).1 (by have := (few_ok h2).2; omega)
  have c4 : fewV ps = true → fewE 60 e = true → Is Try.prog 45 [.g (eE e), .c (.sl 3 (ps.map eV))] (fR (fillTop ps e)) := fun h1 h2 => rFill_is (okV_of wp h1).1 (okV_of wp h1).2 e (few_ok h2).1 (by have := (few_ok h2).2; omega)
  have c5 : fewV ps = true → fewE 60 e = true → okE (fillTop ps e).1 := fun h1 h2 => by
    have hx := okE_filled (fun v hv => ((okV_of wp h1).1 v hv).2) e (few_ok h2).1
    have hz : okE zEx := ⟨big0, big0, Nat.zero_le _, trivial⟩
    unfold fillTop
    repeat' split
    all_goals first | exact hz | exact hx
  have c6 : fewV ps = true → fewE 60 e = true → Is Try.prog 46 [.g (eE (fillTop ps e).1), .g (eE (fillTop ps e).1)] (vB true) := fun h1 h2 => by
    have := rsame_is _ (c5 h1 h2) (fillTop ps e).1
    rwa [eqE_refl] at this
  clear c5
  generalize fillTop ps e = p at c3 c4 c6
  obtain ⟨x, f⟩ := p
  have hps : [ps].all fewV = fewV ps := by simp
  rw [hps] at c1
  generalize fewV ps = b1 at c1 c3 c4 c6
  generalize fewE 60 e = b2 at c2 c3 c4 c6
  cases e
  cases x
  refine Is.of TP Try.func9 rfl rfl (Nat.le_of_ble_eq_true rfl) fun st => Pw.of TP [] ?_
  conv => whnf
  refine Is.callB c1 fun b hb => ?_
  subst hb
  cases b1 <;> conv => whnf
  · refine works_is.call ?_
    conv => whnf
    exact Fin.old rfl (.refl _)
  refine Is.callB c2 fun b hb => ?_
  subst hb
  cases b2 <;> conv => whnf
  · refine works_is.call ?_
    conv => whnf
    exact Fin.old rfl (.refl _)
  refine Is.call (c3 rfl rfl) ?_
  conv => whnf
  refine Is.call (c4 rfl rfl) ?_
  conv => whnf
  refine Is.call (c6 rfl rfl) ?_
  conv => whnf
  refine ⟨fun h => ?_, fun h => ?_⟩ <;> conv => whnf
  · refine works_is.call ?_
    conv => whnf
    exact Fin.old rfl (.refl _)
  · exact absurd rfl h
end Go.Proofs.Ytbmgenifdlgbmaa.D
namespace Go.Proofs.Ytbmgenifdlgbmaa.D
set_option linter.unusedVariables false
set_option linter.unusedSimpArgs false
open Go Go.Proofs.Ytbmgenifdlgbmaa.D.Pm
set_option maxRecDepth 4000
theorem evalSound_law (e : Ex) (row ps : List Val) (we : wfE e) (wr : wfVs row) (wp : wfVs ps) : Is Try.prog 11 [.g (eE e), .c (.sl 3 (row.map eV)), .c (.sl 3 (ps.map eV))] (vB true) := by
  have c1 := few_v [row, ps] (Nat.le_of_ble_eq_true rfl)
  have hps : [row, ps].all fewV = (fewV row && fewV ps) := by simp
  rw [hps] at c1
  have c2 := few_is e 60 (by decide)
  by_cases hf : (fewV row && fewV ps) = true ∧ fewE 60 e = true
  · obtain ⟨hf1, hf2⟩ := hf
    rw [hf1] at c1
    rw [hf2] at c2
    rw [Bool.and_eq_true] at hf1
    obtain ⟨ok, hn⟩ := few_ok hf2
    obtain ⟨okp, lp⟩ := okV_of wp hf1.2
    obtain ⟨okr, lr⟩ := okV_of wr hf1.1
    have l1 := (fewV_of hf1.1).1
    have l2 := (fewV_of hf1.2).1
    have c3 := kinds16_is row (by omega)
    have c4 := kinds16_is ps (by omega)
    have c5 := Type_is (row.map (·.k)) (ps.map (·.k)) e ok (by omega)
    have c6 := Eval_is (row := row) (ps := ps) (fun v hv => (okr v hv).1) (fun v hv => (okp v hv).1) e ok (inE_of we)
    have key : ∀ t, typTop (row.map (·.k)) (ps.map (·.k)) e = (t, 0) → Ty t (evalTop row ps e) := fun t ht => by
      unfold typTop at ht
      split at ht
      · rename_i h1
        simp only [Prod.mk.injEq] at ht
        exact absurd ht.2 (by omega)
      · rename_i h1
        unfold evalTop
        rw [if_neg h1]
        exact (sound rfl (fun i h h' => .inl rfl) e (check0 (by omega)) t ht).2
    generalize typTop (row.map (·.k)) (ps.map (·.k)) e = p at c5 key
    generalize evalTop row ps e = q at c6 key
    obtain ⟨t, f⟩ := p
    obtain ⟨v, g⟩ := q
    clear ok hn hf1 hf2 we wr wp okp okr lp lr l1 l2
    cases e
    refine Is.of TP Try.func11 rfl rfl (Nat.le_of_ble_eq_true rfl) fun st => Pw.of TP [] ?_
    conv => whnf
    refine Is.call c1 ?_
    conv => whnf
    refine Is.call c2 ?_
    conv => whnf
    refine Pw.drw TP mixed (by kernel_rfl) ?_; conv => whnf
    refine Is.draw c3 ?_
    conv => whnf
    refine Is.draw c4 ?_
    conv => whnf
    refine Is.draw c5 ?_
    conv => whnf
    refine ⟨fun h => ?_, fun h => ?_⟩ <;> conv => whnf
    · refine works_is.call ?_
      conv => whnf
      exact Fin.old rfl (.refl _)
    have hf0 : f = 0 := by dsimp only at *; omega
    subst hf0
    have hT := key t rfl
    refine Is.call c6 ?_
    conv => whnf
    have hg := hT.2
    have hg0 := hT.1
    dsimp only at hg hg0
    repeat' (first | (refine ⟨fun h => ?_, fun h => ?_⟩ <;> conv => whnf) | (refine works_is.call ?_; conv => whnf) | fail)
    all_goals first | exact Fin.old rfl (.refl _) | (exfalso; dsimp only at *; omega)
  · generalize (fewV row && fewV ps) = b1 at c1 hf
    generalize fewE 60 e = b2 at c2 hf
    cases e
    refine Is.of TP Try.func11 rfl rfl (Nat.le_of_ble_eq_true rfl) fun st => Pw.of TP [] ?_
    conv => whnf
    refine Is.callB c1 fun b hb => ?_
    subst hb
    cases b1 <;> conv => whnf
    · refine works_is.call ?_
      conv => whnf
      exact Fin.old rfl (.refl _)
    refine Is.callB c2 fun b hb => ?_
    subst hb
    cases b2 <;> conv => whnf
    · refine works_is.call ?_
      conv => whnf
      exact Fin.old rfl (.refl _)
    · exact absurd ⟨rfl, rfl⟩ hf
end Go.Proofs.Ytbmgenifdlgbmaa.D
namespace Go.Proofs.Ytbmgenifdlgbmaa.D
set_option linter.unusedVariables false
set_option linter.unusedSimpArgs false
open Go Go.Proofs.Ytbmgenifdlgbmaa.D.Pm
set_option maxRecDepth 4000
theorem evalLoose_law (e : Ex) (row ps : List Val) (we : wfE e) (wr : wfVs row) (wp : wfVs ps) : Is Try.prog 12 [.g (eE e), .c (.sl 3 (row.map eV)), .c (.sl 3 (ps.map eV))] (vB true) := by
  have c1 := few_v [row, ps] (Nat.le_of_ble_eq_true rfl)
  have hps : [row, ps].all fewV = (fewV row && fewV ps) := by simp
  rw [hps] at c1
  have c2 := few_is e 60 (by decide)
  by_cases hf : (fewV row && fewV ps) = true ∧ fewE 60 e = true
  · obtain ⟨hf1, hf2⟩ := hf
    rw [hf1] at c1
    rw [hf2] at c2
    rw [Bool.and_eq_true] at hf1
    obtain ⟨ok, hn⟩ := few_ok hf2
    obtain ⟨okp, lp⟩ := okV_of wp hf1.2
    obtain ⟨okr, lr⟩ := okV_of wr hf1.1
    have l1 := (fewV_of hf1.1).1
    have l2 := (fewV_of hf1.2).1
    have c3 := kinds16_is row (by omega)
    have c4 := kinds16_is ps (by omega)
    have c5 := Type_is (row.map (·.k)) (ps.map (·.k)) e ok (by omega)
    have oks : ∀ i, ∀ v ∈ row.set i zV, okV v := fun i v hv => by
      rcases List.mem_or_eq_of_mem_set hv with h | h
      · exact (okr v h).1
      · rw [h]; exact okz
    have c6 := fun i => Eval_is (row := row.set i zV) (ps := ps) (oks i) (fun v hv => (okp v hv).1) e ok (inE_of we)
    have key : ∀ t, typTop (row.map (·.k)) (ps.map (·.k)) e = (t, 0) → ∀ i, Ty t (evalTop (row.set i zV) ps e) := fun t ht i => by
      unfold typTop at ht
      split at ht
      · rename_i h1
        simp only [Prod.mk.injEq] at ht
        exact absurd ht.2 (by omega)
      · rename_i h1
        unfold evalTop
        rw [if_neg h1]
        refine (sound (by rw [List.length_set]) (fun j h h' => ?_) e (check0 (by omega)) t ht).2
        rw [List.getElem_set]
        split
        · exact .inr rfl
        · exact .inl rfl
    generalize typTop (row.map (·.k)) (ps.map (·.k)) e = p at c5 key
    obtain ⟨t, f⟩ := p
    clear ok hn hf1 hf2 we wr wp okp okr lp l2 oks
    cases e
    refine Is.of TP Try.func12 rfl rfl (Nat.le_of_ble_eq_true rfl) fun st => Pw.of TP [] ?_
    conv => whnf
    refine Is.call c1 ?_
    conv => whnf
    refine Is.call c2 ?_
    conv => whnf
    refine Pw.drw TP mixed (by kernel_rfl) ?_; conv => whnf
    refine Is.draw c3 ?_
    conv => whnf
    refine Is.draw c4 ?_
    conv => whnf
    refine Is.draw c5 ?_
    conv => whnf
    refine ⟨fun h => ?_, fun h => ?_⟩ <;> conv => whnf
    · refine works_is.call ?_
      conv => whnf
      exact Fin.old rfl (.refl _)
    have hf0 : f = 0 := by dsimp only at *; omega
    subst hf0
    have hT := key t rfl
    clear key
    refine Pw.rng (τ := Unit) 9 (row.map eV).length (by simpa using lr) [1, 2, 3, 7] (fun _ => []) (fun i _ => True) () rfl trivial trivial fun i _ hi _ => Pw.of TP [1000042] ?_
    conv => whnf
    refine ⟨fun h => ?_, fun h => ?_⟩ <;> conv => whnf
    · have hi' : i < row.length := lt_map h
      intro id hid
      conv => whnf
      have hg0 : Grow st 3 (upd st id (.ar 3 [])) (.arr id 0 0) [] := ⟨.upd hid, .inr ⟨id, rfl, upd_same _ _ _, hid⟩⟩
      refine Grow.app (z := ⟨.st [(0, 3), (1, 3), (2, 9)], 3, 32, [.int .i64 0, .int .i64 0, .string ⟨#[]⟩]⟩) hg0 (by unfold maxLen; simp; omega) (by simp; omega) fun a' s' hg' hk' => ?_
      have ha : ∃ id', a' = .arr id' 0 row.length ∧ s' id' = some (.ar 3 (row.map eV)) ∧ st id' = none := by
        rcases hg'.2 with ⟨_, h⟩ | ⟨id', h1, h2, h3⟩
        · have := congrArg List.length h; simp at this; subst this; simp at hi'
        · exact ⟨id', by rw [h1]; simp, h2, h3⟩
      have hle := hg'.1
      clear hg' hk' hg0
      obtain ⟨id', rfl, hs, h0⟩ := ha
      conv => whnf
      refine ⟨by omega, by omega, ⟨_, hs⟩, ?_⟩
      conv => whnf
      refine ⟨3, row.map eV, eV row[i], hs, by simp [List.getElem?_eq_getElem hi'], Nat.le_of_ble_eq_true rfl, ?_⟩
      conv => whnf
      have hset : (row.map eV).set (0 + ((i : Nat) : Int).toNat) (eV zV) = (row.set i zV).map eV := by rw [Nat.zero_add, Int.toNat_natCast, List.map_set]
      have hs2 : upd s' id' (.ar 3 ((row.map eV).set (0 + ((i : Nat) : Int).toNat) (eV zV))) id' = some (.ar 3 ((row.set i zV).map eV)) := by rw [hset]; exact upd_same _ _ _
      have hT2 := hT i
      have c7 := c6 i
      generalize evalTop (row.set i zV) ps _ = q at c7 hT2
      obtain ⟨v, g⟩ := q
      refine Does.argsD (as' := [.g (eE _), .c (.sl 3 ((row.set i zV).map eV)), .c (.sl 3 (ps.map eV))]) (st' := st) (only id') (fun j o ho => ⟨(hle.up2 h0) j o ho, ?_⟩) rfl (fun j r r' q1 q2 => ?_) (Is.call c7 ?_)
      · have : j ≠ id' := fun e => by subst e; rw [h0] at ho; cases ho
        simp [only, this]
      · match j, q1, q2 with
        | 0, q1, q2 => cases q1; cases q2; exact .refl _
        | 1, q1, q2 =>
          cases q1; cases q2
          refine .c _ _ ?_
          have := Fz.arr0 (D := only id') (sz := 3) (rows := (row.set i zV).map eV) (by simp [only]) hs2 (fun r hr => by obtain ⟨x, _, rfl⟩ := List.mem_map.1 hr; rfl)
          rw [List.length_map, List.length_set] at this
          exact this
        | 2, q1, q2 => cases q1; cases q2; exact .refl _
        | j + 3, q1, q2 => simp at q2
      conv => whnf
      have hg := hT2.2
      have hg0 := hT2.1
      dsimp only at hg hg0
      repeat' (first | (refine ⟨fun h => ?_, fun h => ?_⟩ <;> conv => whnf) | fail)
      all_goals first | (exfalso; dsimp only at *; omega) | exact ⟨by simpa using hi', rfl, ⟨rfl, rfl, rfl, rfl, trivial⟩, (), trivial, .refl _, trivial⟩
    · refine works_is.call ?_
      conv => whnf
      exact Fin.old rfl (.refl _)
  · generalize (fewV row && fewV ps) = b1 at c1 hf
    generalize fewE 60 e = b2 at c2 hf
    cases e
    refine Is.of TP Try.func12 rfl rfl (Nat.le_of_ble_eq_true rfl) fun st => Pw.of TP [] ?_
    conv => whnf
    refine Is.callB c1 fun b hb => ?_
    subst hb
    cases b1 <;> conv => whnf
    · refine works_is.call ?_
      conv => whnf
      exact Fin.old rfl (.refl _)
    refine Is.callB c2 fun b hb => ?_
    subst hb
    cases b2 <;> conv => whnf
    · refine works_is.call ?_
      conv => whnf
      exact Fin.old rfl (.refl _)
    · exact absurd ⟨rfl, rfl⟩ hf
end Go.Proofs.Ytbmgenifdlgbmaa.D
