/- Words and contracts: a plain machine over the model, and what the functions that a law reaches come to, each for every input that its theorem names. -/
import Derived.Test.YtgbdhakkgnmeoaaGreatK7
namespace Go.Proofs.YtgbdhakkgnmeoaaGreat.D
set_option linter.unusedVariables false
set_option linter.unusedSimpArgs false
open Go Go.Proofs.YtgbdhakkgnmeoaaGreat.D.Pm
set_option maxRecDepth 4000
abbrev Ck (st : Sto) (id : Nat) : Prop := st id = some (.bx [.v (.bool false)])
theorem le_same {st : Sto} {id : Nat} {o : Ob} (h : st id = some o) : Le st (upd st id o) := fun i x hi => by
  by_cases e : i = id
  · subst e; rw [upd_same]; rw [h] at hi; exact hi
  · rw [upd_ne _ e]; exact hi
theorem any_ck (e : Ex) (ok : okE e) (hc : checkE false e = 0) {st : Sto} {id : Nat} (h : Ck st id) : Does Tryz.prog 86 [.c (.ptr id 0), .g (eE e)] st fun r s' => r = vB true ∧ s' = st := by
  have hk := check_is e ok false
  rw [hc] at hk
  cases e
  refine Does.of TP Tryz.func86 rfl rfl (Nat.le_of_ble_eq_true rfl) (Pw.of TP [] ?_)
  conv => whnf
  refine hk.call ?_
  conv => whnf
  refine ⟨_, h, ?_⟩
  conv => whnf
  refine ⟨fun h => absurd h (by decide), fun _ => ?_⟩
  conv => whnf
  refine ⟨_, h, Nat.le_of_ble_eq_true rfl, ?_⟩
  conv => whnf
  refine ⟨fun _ => ?_, fun h => absurd (by decide) h⟩
  conv => whnf
  exact Fin.same rfl (le_same h) ⟨rfl, rfl⟩
theorem anys_ck {st : Sto} {id : Nat} (h : Ck st id) : Does Tryz.prog 106 [.c (.ptr id 0), .c (.sl 7 (eEs [colA])), vI .i64 1, vI .i64 6] st fun r s' => r = vB true ∧ s' = st := by
  have hb := between_is 1 1 6
  refine Does.of TP Tryz.func106 rfl rfl (Nat.le_of_ble_eq_true rfl) (Pw.of TP [] ?_)
  conv => whnf
  refine hb.call ?_
  conv => whnf
  refine Pw.rng (τ := Unit) 20 1 big1 [0, 18, 19] (fun _ => [(9, vB true)]) (fun i _ => True) () rfl ⟨rfl, trivial⟩ trivial fun i _ hi _ => Pw.of TP [] ?_
  conv => whnf
  refine ⟨fun hc => ?_, fun hc => ?_⟩ <;> conv => whnf
  · obtain rfl : i = 0 := by have : (i : Int) < 1 := hc; omega
    refine ⟨by decide, by decide, _, rfl, ?_⟩
    conv => whnf
    refine (any_ck colA okColA (by kernel_rfl) h).mono fun r s1 h1 => ?_
    obtain ⟨rfl, rfl⟩ := h1
    conv => whnf
    exact ⟨by decide, rfl, ⟨rfl, rfl, rfl, trivial⟩, (), ⟨rfl, trivial⟩, .refl _, trivial⟩
  · exact Fin.same rfl (.refl _) ⟨rfl, rfl⟩
theorem rows_ck {st : Sto} {id : Nat} (h : Ck st id) : Does Tryz.prog 83 [.c (.ptr id 0), .c (.sl 1 ([[colA]].map eRow)), vI .i64 0, vI .i64 1, vI .i64 6] st fun r s' => r = vB true ∧ s' = st := by
  have hb := between_is 1 0 1
  refine Does.of TP Tryz.func83 rfl rfl (Nat.le_of_ble_eq_true rfl) (Pw.of TP [] ?_)
  conv => whnf
  refine hb.call ?_
  conv => whnf
  refine Pw.rng (τ := Unit) 22 1 big1 [0, 4, 20, 21] (fun _ => [(11, vB true)]) (fun i _ => True) () rfl ⟨rfl, trivial⟩ trivial fun i _ hi _ => Pw.of TP [] ?_
  conv => whnf
  refine ⟨fun hc => ?_, fun hc => ?_⟩ <;> conv => whnf
  · obtain rfl : i = 0 := by have : (i : Int) < 1 := hc; omega
    refine ⟨by decide, by decide, _, rfl, ?_⟩
    conv => whnf
    refine (anys_ck h).mono fun r s1 h1 => ?_
    obtain ⟨rfl, rfl⟩ := h1
    conv => whnf
    exact ⟨by decide, rfl, ⟨rfl, rfl, rfl, rfl, trivial⟩, (), ⟨rfl, trivial⟩, .refl _, trivial⟩
  · exact Fin.same rfl (.refl _) ⟨rfl, rfl⟩
theorem where_ck {st : Sto} {id : Nat} : Does Tryz.prog 87 [.c (.ptr id 0), .g (eE noE)] st fun r s' => r = vB true ∧ s' = st := by
  have h := none_is noE okNoE
  have e : eqE noE noE = true := by kernel_rfl
  rw [e] at h
  refine Does.of TP Tryz.func87 rfl rfl (Nat.le_of_ble_eq_true rfl) (Pw.of TP [] ?_)
  conv => whnf
  refine h.call ?_
  conv => whnf
  exact Fin.same rfl (.refl _) ⟨rfl, rfl⟩
theorem kind_ck {st : Sto} {id : Nat} (h : Ck st id) : Does Tryz.prog 58 [.c (.ptr id 0), .g (eSt wS)] st fun r s' => r = vB true ∧ s' = st := by
  have hn := isName_is ⟨#[]⟩ (by decide)
  have hb := between_is 3 (-1) 9999
  refine Does.of TP Tryz.func58 rfl rfl (Nat.le_of_ble_eq_true rfl) (Pw.of TP [] ?_)
  conv => whnf
  refine hn.call ?_
  conv => whnf
  iterate 40 (first
    | (refine ⟨fun h => ?_, fun _ => ?_⟩
       · exfalso; revert h; decide
       conv => whnf)
    | skip)
  refine ⟨fun _ => ?_, fun h => absurd rfl h⟩
  conv => whnf
  refine (rows_ck h).mono fun r s1 h1 => ?_
  obtain ⟨rfl, rfl⟩ := h1
  conv => whnf
  refine ⟨fun _ => ?_, fun h => absurd (by decide) h⟩
  conv => whnf
  refine hb.call ?_
  conv => whnf
  exact Fin.same rfl (.refl _) ⟨rfl, rfl⟩
theorem parts_ck {st : Sto} {id : Nat} (h : Ck st id) : Does Tryz.prog 59 [.c (.ptr id 0), .g (eSt wS)] st fun r s' => r = vB true ∧ s' = st := by
  refine Does.of TP Tryz.func59 rfl rfl (Nat.le_of_ble_eq_true rfl) (Pw.of TP [] ?_)
  conv => whnf
  refine Pw.rng (τ := Unit) 17 0 (Nat.zero_le _) [0, 3, 15, 16] (fun _ => [(5, vB true)]) (fun i _ => True) () rfl ⟨rfl, trivial⟩ trivial fun i _ hi _ => Pw.of TP [] ?_
  conv => whnf
  refine ⟨fun hc => absurd hc (show ¬ (i : Int) < ((0 : Nat) : Int) by omega), fun _ => ?_⟩
  conv => whnf
  refine Pw.rng (τ := Unit) 30 0 (Nat.zero_le _) [0, 3, 28, 29] (fun _ => [(5, vB true)]) (fun i _ => True) () rfl ⟨rfl, trivial⟩ trivial fun i _ hi _ => Pw.of TP [] ?_
  conv => whnf
  refine ⟨fun hc => absurd hc (show ¬ (i : Int) < ((0 : Nat) : Int) by omega), fun _ => ?_⟩
  conv => whnf
  refine Pw.rng (τ := Unit) 44 0 (Nat.zero_le _) [0, 3, 42, 43] (fun _ => [(5, vB true)]) (fun i _ => True) () rfl ⟨rfl, trivial⟩ trivial fun i _ hi _ => Pw.of TP [] ?_
  conv => whnf
  refine ⟨fun hc => absurd hc (show ¬ (i : Int) < ((0 : Nat) : Int) by omega), fun _ => ?_⟩
  conv => whnf
  refine Pw.rng (τ := Unit) 64 1 big1 [0, 3, 62, 63] (fun _ => [(5, vB true)]) (fun i _ => True) () rfl ⟨rfl, trivial⟩ trivial fun i _ hi _ => Pw.of TP [] ?_
  conv => whnf
  refine ⟨fun hc => ?_, fun hc => ?_⟩ <;> conv => whnf
  · obtain rfl : i = 0 := by have : (i : Int) < 1 := hc; omega
    refine ⟨by decide, by decide, _, rfl, ?_⟩
    conv => whnf
    refine (any_ck colA okColA (by kernel_rfl) h).mono fun r s1 h1 => ?_
    obtain ⟨rfl, rfl⟩ := h1
    conv => whnf
    exact ⟨by decide, rfl, ⟨rfl, rfl, rfl, rfl, trivial⟩, (), ⟨rfl, trivial⟩, .refl _, trivial⟩
  · refine (where_ck (st := st) (id := id)).mono fun r s1 h1 => ?_
    obtain ⟨rfl, rfl⟩ := h1
    conv => whnf
    exact Fin.same rfl (.refl _) ⟨rfl, rfl⟩
theorem own_is : Is Tryz.prog 56 [.g (eSt wS)] (.g (eSt wS)) := by
  refine Is.of TP Tryz.func56 rfl rfl (Nat.le_of_ble_eq_true rfl) fun st => Pw.of TP [1000003] ?_
  conv => whnf
  intro id1 h1
  conv => whnf
  intro id2 h2
  conv => whnf
  have h2' : st id2 = none := by
    cases h : st id2 with
    | none => rfl
    | some o => rw [(Le.refl st).up h1 _ _ h] at h2; cases h2
  have hne : id1 ≠ id2 := fun e => by subst e; rw [upd_same] at h2; cases h2
  refine ⟨_, upd_same _ _ _, Nat.le_of_ble_eq_true rfl, ?_⟩
  conv => whnf
  refine ⟨fun h => absurd h (by decide), fun _ => ?_⟩
  conv => whnf
  refine ⟨fun _ => ?_, fun h => absurd (by decide) h⟩
  conv => whnf
  refine ⟨fun _ => ?_, fun h => absurd (by decide) h⟩
  conv => whnf
  refine ⟨_, upd_same _ _ _, Nat.le_of_ble_eq_true rfl, ?_⟩
  conv => whnf
  iterate 40 (first
    | (refine ⟨fun h => ?_, fun _ => ?_⟩
       · exfalso; revert h; decide
       conv => whnf)
    | skip)
  refine ⟨fun _ => ?_, fun h => absurd rfl h⟩
  conv => whnf
  refine Pw.drwC TP mixed [9, 10, 11, 12, 13, 14, 15] (by kernel_rfl) ?_; conv => whnf
  refine ⟨_, upd_same _ _ _, Nat.le_of_ble_eq_true rfl, ?_⟩
  conv => whnf
  refine ⟨_, upd_same _ _ _, Nat.le_of_ble_eq_true rfl, ?_⟩
  conv => whnf
  refine ⟨_, upd_same _ _ _, Nat.le_of_ble_eq_true rfl, ?_⟩
  conv => whnf
  refine ⟨_, upd_same _ _ _, Nat.le_of_ble_eq_true rfl, ?_⟩
  conv => whnf
  refine ⟨_, upd_same _ _ _, ?_⟩
  conv => whnf
  refine ⟨_, (upd_ne _ hne).trans ((upd_ne _ hne).trans ((upd_ne _ hne).trans ((upd_ne _ hne).trans ((upd_ne _ hne).trans ((upd_ne _ hne).trans ((upd_ne _ hne).trans (upd_same _ _ _))))))), Nat.le_of_ble_eq_true rfl, ?_⟩
  conv => whnf
  refine ⟨_, upd_same _ _ _, ?_⟩
  conv => whnf
  have hle := fun a1 a2 a3 a4 a5 a6 a7 a8 a9 => ((((((((((Le.refl st).up2 (o := a1) h1).up2 (o := a2) h2').up2 (o := a3) h2').up2 (o := a4) h2').up2 (o := a5) h2').up2 (o := a6) h2').up2 (o := a7) h2').up2 (o := a8) h2').up2 (o := a9) h1)
  refine ⟨fun _ => false, st, .g (eSt wS), ?_, fun id o ho => ⟨hle _ _ _ _ _ _ _ _ _ _ _ ho, rfl⟩, rfl, rfl⟩
  exact .gl (.cons (.refl _) (.cons (.refl _) (.cons (.refl _) (.cons (.refl _) (.cons (.nil 3) (.cons (.nil 12) (.cons (.nil 1) (.cons (.refl _) (.cons (.refl _) (.cons (.refl _) (.cons (.refl _) (.cons (.refl _) (.cons (.refl _) (.cons (.refl _) (.cons (.refl _) (.cons (.nil 8) (.cons (.refl _) (.cons (.refl _) (.cons (.refl _) (.cons (.refl _) (.cons (.nil 21) .nil)))))))))))))))))))))
theorem okWS : okSt wS := by
  unfold wS
  rw [okSt]
  refine ⟨by decide, ⟨by decide, fun x h => by cases h⟩, by decide, ⟨by decide, fun r h => ?_⟩, okNoE, ⟨by decide, fun x h => by cases h⟩, ⟨by decide, fun x h => ?_⟩, by decide, trivial⟩
  · simp at h; subst h; exact ⟨by decide, fun e h => by simp at h; subst h; exact okColA⟩
  · simp at h; subst h; exact okColA
theorem right_ck {st : Sto} {id : Nat} (h : Ck st id) : Does Tryz.prog 39 [.c (.ptr id 0), .g (eSt wS)] st fun r s' => r = vB true ∧ s' = st := by
  have hs := ssame_is wS okWS wS
  rw [eqSt_refl] at hs
  have hn := isName_is tS (by decide)
  have e : isName tS = true := by kernel_rfl
  rw [e] at hn
  refine Does.of TP Tryz.func39 rfl rfl (Nat.le_of_ble_eq_true rfl) (Pw.of TP [] ?_)
  conv => whnf
  refine own_is.call ?_
  conv => whnf
  refine hs.call ?_
  conv => whnf
  refine ⟨fun h => absurd h (by decide), fun _ => ?_⟩
  conv => whnf
  refine ⟨fun _ => ?_, fun h => absurd (by decide) h⟩
  conv => whnf
  refine ⟨fun _ => ?_, fun h => absurd (by decide) h⟩
  conv => whnf
  refine hn.call ?_
  conv => whnf
  refine Pw.drwC TP mixed [2, 5, 6, 7] (by kernel_rfl) ?_; conv => whnf
  refine (kind_ck h).mono fun r s1 h1 => ?_
  obtain ⟨rfl, rfl⟩ := h1
  conv => whnf
  refine (parts_ck h).mono fun r s1 h1 => ?_
  obtain ⟨rfl, rfl⟩ := h1
  conv => whnf
  exact Fin.same rfl (.refl _) ⟨rfl, rfl⟩
theorem check12_is : Is Tryz.prog 30 [.g (eSt wS)] (vI .i64 0) := by
  refine Is.of TP Tryz.func30 rfl rfl (Nat.le_of_ble_eq_true rfl) fun st => Pw.of TP [1000005] ?_
  conv => whnf
  intro id hid
  conv => whnf
  have hc : Ck (upd st id (.bx [.v (.bool false)])) id := upd_same _ _ _
  refine (right_ck hc).mono fun r s1 h1 => ?_
  obtain ⟨rfl, rfl⟩ := h1
  conv => whnf
  refine ⟨_, hc, ?_⟩
  conv => whnf
  exact Fin.old rfl ((Le.refl st).up2 hid)
end Go.Proofs.YtgbdhakkgnmeoaaGreat.D
namespace Go.Proofs.YtgbdhakkgnmeoaaGreat.D
set_option linter.unusedVariables false
set_option linter.unusedSimpArgs false
open Go Go.Proofs.YtgbdhakkgnmeoaaGreat.D.Pm
set_option maxRecDepth 4000
theorem idx0Set (g : Nat) (caps : List AC) : Is Tryz.prog 64 [.c (.sl 8 []), .c (.fn g caps)] (vI .i64 (-1)) := by
  refine Is.of TP Tryz.func64 rfl rfl (Nat.le_of_ble_eq_true rfl) fun st => Pw.of TP [] ?_
  conv => whnf
  refine Pw.rng (τ := Unit) 8 0 (Nat.zero_le _) [7] (fun _ => []) (fun _ _ => True) () rfl ⟨⟩ trivial fun i _ hi _ => Pw.of TP [] ?_
  conv => whnf
  refine ⟨fun hc => absurd hc (show ¬ (i : Int) < ((0 : Nat) : Int) by omega), fun _ => ?_⟩
  conv => whnf
  exact Fin.old rfl (.refl _)
theorem con0Set (g : Nat) (caps : List AC) : Is Tryz.prog 44 [.c (.sl 8 []), .c (.fn g caps)] (vB false) := by
  refine Is.of TP Tryz.func44 rfl rfl (Nat.le_of_ble_eq_true rfl) fun st => Pw.of TP [] ?_
  conv => whnf
  refine (idx0Set g caps).call ?_
  conv => whnf
  refine ⟨fun h => absurd h (by decide), fun _ => ?_⟩
  conv => whnf
  exact Fin.old rfl (.refl _)
theorem idx0Con (g : Nat) (caps : List AC) : Is Tryz.prog 66 [.c (.sl 12 []), .c (.fn g caps)] (vI .i64 (-1)) := by
  refine Is.of TP Tryz.func66 rfl rfl (Nat.le_of_ble_eq_true rfl) fun st => Pw.of TP [] ?_
  conv => whnf
  refine Pw.rng (τ := Unit) 8 0 (Nat.zero_le _) [7] (fun _ => []) (fun _ _ => True) () rfl ⟨⟩ trivial fun i _ hi _ => Pw.of TP [] ?_
  conv => whnf
  refine ⟨fun hc => absurd hc (show ¬ (i : Int) < ((0 : Nat) : Int) by omega), fun _ => ?_⟩
  conv => whnf
  exact Fin.old rfl (.refl _)
theorem con0Con (g : Nat) (caps : List AC) : Is Tryz.prog 48 [.c (.sl 12 []), .c (.fn g caps)] (vB false) := by
  refine Is.of TP Tryz.func48 rfl rfl (Nat.le_of_ble_eq_true rfl) fun st => Pw.of TP [] ?_
  conv => whnf
  refine (idx0Con g caps).call ?_
  conv => whnf
  refine ⟨fun h => absurd h (by decide), fun _ => ?_⟩
  conv => whnf
  exact Fin.old rfl (.refl _)
theorem idx0St (g : Nat) (caps : List AC) : Is Tryz.prog 67 [.c (.sl 21 []), .c (.fn g caps)] (vI .i64 (-1)) := by
  refine Is.of TP Tryz.func67 rfl rfl (Nat.le_of_ble_eq_true rfl) fun st => Pw.of TP [] ?_
  conv => whnf
  refine Pw.rng (τ := Unit) 8 0 (Nat.zero_le _) [7] (fun _ => []) (fun _ _ => True) () rfl ⟨⟩ trivial fun i _ hi _ => Pw.of TP [] ?_
  conv => whnf
  refine ⟨fun hc => absurd hc (show ¬ (i : Int) < ((0 : Nat) : Int) by omega), fun _ => ?_⟩
  conv => whnf
  exact Fin.old rfl (.refl _)
theorem con0St (g : Nat) (caps : List AC) : Is Tryz.prog 50 [.c (.sl 21 []), .c (.fn g caps)] (vB false) := by
  refine Is.of TP Tryz.func50 rfl rfl (Nat.le_of_ble_eq_true rfl) fun st => Pw.of TP [] ?_
  conv => whnf
  refine (idx0St g caps).call ?_
  conv => whnf
  refine ⟨fun h => absurd h (by decide), fun _ => ?_⟩
  conv => whnf
  exact Fin.old rfl (.refl _)
theorem long1A : Is Tryz.prog 40 [.g (eE colA)] (vB false) := by
  have hn := none_is colA okColA
  have e : eqE colA noE = false := by kernel_rfl
  rw [e] at hn
  refine Is.of TP Tryz.func40 rfl rfl (Nat.le_of_ble_eq_true rfl) fun st => Pw.of TP [] ?_
  conv => whnf
  refine printA.call ?_
  conv => whnf
  refine hn.call ?_
  conv => whnf
  refine ⟨fun h => absurd h (by decide), fun _ => ?_⟩
  conv => whnf
  exact Fin.old rfl (.refl _)
theorem long1N : Is Tryz.prog 40 [.g (eE noE)] (vB false) := by
  have hn := none_is noE okNoE
  have e : eqE noE noE = true := by kernel_rfl
  rw [e] at hn
  refine Is.of TP Tryz.func40 rfl rfl (Nat.le_of_ble_eq_true rfl) fun st => Pw.of TP [] ?_
  conv => whnf
  refine printN.call ?_
  conv => whnf
  refine hn.call ?_
  conv => whnf
  exact Fin.old rfl (.refl _)
theorem long3_is : Is Tryz.prog 47 [.g (eOrd ⟨colA, true⟩), .c (.ep [.fn 40 []])] (vB false) := by
  refine Is.of TP Tryz.func47 rfl rfl (Nat.le_of_ble_eq_true rfl) fun st => Pw.of TP [] ?_
  conv => whnf
  refine long1A.call ?_
  conv => whnf
  exact Fin.old rfl (.refl _)
theorem idxOrd : Is Tryz.prog 65 [.c (.sl 8 ([(⟨colA, true⟩ : OrdX)].map eOrd)), .c (.fn 47 [.ep [.fn 40 []]])] (vI .i64 (-1)) := by
  refine Is.of TP Tryz.func65 rfl rfl (Nat.le_of_ble_eq_true rfl) fun st => Pw.of TP [] ?_
  conv => whnf
  refine Pw.rng (τ := Unit) 8 1 big1 [0, 1, 7] (fun _ => []) (fun _ _ => True) () rfl ⟨⟩ trivial fun i _ hi _ => Pw.of TP [] ?_
  conv => whnf
  refine ⟨fun hc => ?_, fun hc => ?_⟩ <;> conv => whnf
  · obtain rfl : i = 0 := by have : (i : Int) < 1 := hc; omega
    refine ⟨by decide, by decide, _, rfl, ?_⟩
    conv => whnf
    refine long3_is.call ?_
    conv => whnf
    exact ⟨by decide, rfl, ⟨rfl, rfl, rfl, trivial⟩, (), trivial, .refl _, trivial⟩
  · exact Fin.old rfl (.refl _)
theorem conOrd : Is Tryz.prog 46 [.c (.sl 8 ([(⟨colA, true⟩ : OrdX)].map eOrd)), .c (.fn 47 [.ep [.fn 40 []]])] (vB false) := by
  refine Is.of TP Tryz.func46 rfl rfl (Nat.le_of_ble_eq_true rfl) fun st => Pw.of TP [] ?_
  conv => whnf
  refine idxOrd.call ?_
  conv => whnf
  refine ⟨fun h => absurd h (by decide), fun _ => ?_⟩
  conv => whnf
  exact Fin.old rfl (.refl _)
theorem long12_is : Is Tryz.prog 31 [.g (eSt wS)] (vB false) := by
  have h1 : Is Tryz.prog 43 [.c (.sl 7 (eEs [colA])), .c (.fn 40 [])] (vB false) :=
    (anyE_is [colA] big1 40 [] (fun _ => false) (fun e he => by simp at he; subst he; exact long1A)).eq rfl
  refine Is.of TP Tryz.func31 rfl rfl (Nat.le_of_ble_eq_true rfl) fun st => Pw.of TP [] ?_
  conv => whnf
  refine Pw.rng (τ := Unit) 9 1 big1 [1, 3, 7, 8] (fun _ => []) (fun _ _ => True) () rfl ⟨⟩ trivial fun i _ hi _ => Pw.of TP [] ?_
  conv => whnf
  refine ⟨fun hc => ?_, fun hc => ?_⟩ <;> conv => whnf
  · obtain rfl : i = 0 := by have : (i : Int) < 1 := hc; omega
    refine ⟨by decide, by decide, _, rfl, ?_⟩
    conv => whnf
    refine h1.call ?_
    conv => whnf
    exact ⟨by decide, rfl, ⟨rfl, rfl, rfl, rfl, trivial⟩, (), trivial, .refl _, trivial⟩
  · refine long1N.call ?_
    conv => whnf
    refine (con0Set _ _).call ?_
    conv => whnf
    refine conOrd.call ?_
    conv => whnf
    refine (con0Con _ _).call ?_
    conv => whnf
    refine (con0St _ _).call ?_
    conv => whnf
    exact Fin.old rfl (.refl _)
theorem print12_is : Is Tryz.prog 9 [.g (eSt wS)] (.t [vS T7, vI .i64 0]) := by
  refine Is.of TP Tryz.func9 rfl rfl (Nat.le_of_ble_eq_true rfl) fun st => Pw.of TP [6] ?_
  conv => whnf
  refine check12_is.call ?_
  conv => whnf
  refine ⟨fun h => absurd rfl h, fun _ => ?_⟩
  conv => whnf
  refine long12_is.call ?_
  conv => whnf
  refine Pw.seq (Pw.regionX TP (sp := fun o env st K => OpOk Tryz.prog _ o env st K) (fun _ _ _ _ h => h) ?_)
  conv => whnf
  refine .inr ?_
  conv => whnf
  refine .inl ⟨rfl, OpOk.boxT rfl rfl (fun l h => by cases h) fun id hid => ?_⟩
  conv => whnf
  refine .inr ?_
  conv => whnf
  have hB0 : Wr st (upd st id (.bx [.v (.pointer none), .v (.slice none 0 0)])) id ⟨#[]⟩ := ⟨_, _, (Le.refl st).up hid, hid, upd_same _ _ _, .inl rfl, .inl ⟨rfl, rfl⟩⟩
  refine Pw.of TP [8, 10] ?_
  conv => whnf
  refine (write12_does hB0).mono fun r s1 h1 => ?_
  obtain ⟨rfl, a, b, h1⟩ := h1
  conv => whnf
  refine Pw.seq (Pw.seq (Pw.regionX TP (sp := fun o env st K => OpOk Tryz.prog _ o env st K) (fun _ _ _ _ h => h) ?_))
  conv => whnf
  refine .inr ?_
  conv => whnf
  refine .inl ⟨rfl, OpOk.tpKeep rfl rfl ?_⟩
  conv => whnf
  refine .inl ⟨rfl, OpOk.tpField TP rfl rfl rfl rfl rfl (by decide) rfl ?_⟩
  conv => whnf
  refine .inr ?_
  conv => whnf
  refine (blen_is h1).mono fun r s2 h2 => ?_
  obtain ⟨rfl, rfl⟩ := h2
  conv => whnf
  refine .inr ?_
  conv => whnf
  have hz : T7.size = 39 := by kernel_rfl
  refine ⟨fun hc => absurd hc (by rw [hz]; decide), fun _ => ?_⟩
  conv => whnf
  refine Pw.cond (b := false) rfl (Pw.of TP [10] ?_)
  conv => whnf
  refine Pw.seq (Pw.regionX TP (sp := fun o env st K => OpOk Tryz.prog _ o env st K) (fun _ _ _ _ h => h) ?_)
  conv => whnf
  refine .inr ?_
  conv => whnf
  refine .inl ⟨rfl, OpOk.tpKeep rfl rfl ?_⟩
  conv => whnf
  refine .inl ⟨rfl, OpOk.tpField TP rfl rfl rfl rfl rfl (by decide) rfl ?_⟩
  conv => whnf
  refine .inr ?_
  conv => whnf
  refine (bstr_does h1 (by rw [hz]; decide)).mono fun r s3 h3 => ?_
  obtain ⟨rfl, rfl⟩ := h3
  conv => whnf
  refine .inr ?_
  conv => whnf
  refine .inr ?_
  conv => whnf
  refine Pw.of TP [] ?_
  conv => whnf
  exact Fin.same rfl (.refl _) ⟨rfl, rfl⟩
theorem fz_row {D : Nat → Bool} {st : Sto} {sz : Nat} {r r' : List AC} (hr : r'.length = sz) (h : F2 (Fz D st) r r') : Fz D st (.sl sz [r]) (.sl sz [r']) := by
  refine .sl _ _ _ rfl (fun i q hq => ?_) (fun i q q' j c c' h1 h2 h3 h4 => ?_)
  · match i, hq with
    | 0, hq => cases hq; exact hr
    | i + 1, hq => simp at hq
  · match i, h1, h2 with
    | 0, h1, h2 => cases h1; cases h2; exact h.get.2 j c c' h3 h4
    | i + 1, h1, h2 => simp at h1
theorem T7_is : T7 = ⟨#[83, 69, 76, 69, 67, 84, 32, 97, 32, 70, 82, 79, 77, 32, 116, 32, 79, 82, 68, 69, 82, 32, 66, 89, 32, 97, 32, 68, 69, 83, 67, 32, 76, 73, 77, 73, 84, 32, 51]⟩ := by kernel_rfl
theorem works12_is : Is Tryz.prog 6 [] (vB true) := by
  have hp := print12_is
  rw [T7_is] at hp
  refine Is.of TP Tryz.func6 rfl rfl (Nat.le_of_ble_eq_true rfl) fun st => Pw.of TP [] ?_
  conv => whnf
  refine Does.argsD (as' := [.g (eSt wS)]) (fun _ => false) (fun id o h => ⟨h, rfl⟩) rfl ?_ (hp.call ?_)
  · intro j r r' q1 q2
    match j, q1, q2 with
    | 0, q1, q2 =>
      cases q1; cases q2
      have hcol : F2 (Fz (fun _ => false) st) [.v (.int .i64 2), .v (.int .i64 0), .v (.int .i64 0), .v (.int .i64 0), .v (.string ⟨#[]⟩), .v (.string aS), .v (.slice none 0 0)] (eE colA) := .cons (.refl _) (.cons (.refl _) (.cons (.refl _) (.cons (.refl _) (.cons (.refl _) (.cons (.refl _) (.cons (.nil 7) .nil))))))
      refine .gl (.cons (.refl _) (.cons (.refl _) (.cons (.refl _) (.cons (.refl _) (.cons (.nil 3) (.cons (.nil 12) (.cons (.nil 1) (.cons (fz_row rfl (.cons (fz_row rfl hcol) .nil)) (.cons (.refl _) (.cons (.refl _) (.cons (.refl _) (.cons (.refl _) (.cons (.refl _) (.cons (.refl _) (.cons (.nil 7) (.cons (.nil 8) (.cons (fz_row rfl ?_) (.cons (.refl _) (.cons (.refl _) (.cons (.refl _) (.cons (.nil 21) .nil)))))))))))))))))))))
      exact .cons (.refl _) (.cons (.refl _) (.cons (.refl _) (.cons (.refl _) (.cons (.refl _) (.cons (.refl _) (.cons (.nil 7) (.cons (.refl _) .nil)))))))
    | j + 1, q1, q2 => simp at q2
  conv => whnf
  refine ⟨fun _ => ?_, fun h => absurd rfl h⟩
  conv => whnf
  refine ⟨fun _ => ?_, fun h => absurd rfl h⟩
  conv => whnf
  exact Fin.old rfl (.refl _)
end Go.Proofs.YtgbdhakkgnmeoaaGreat.D
