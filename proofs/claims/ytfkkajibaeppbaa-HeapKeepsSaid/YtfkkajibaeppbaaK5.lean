/- Words and contracts: a plain machine over the model, and what the functions that a law reaches come to, each for every input that its theorem names. -/
import Derived.Test.YtfkkajibaeppbaaK4
namespace Go.Proofs.Ytfkkajibaeppbaa.D
set_option linter.unusedVariables false
set_option linter.unusedSimpArgs false
open Go Go.Proofs.Ytfkkajibaeppbaa.D.Pm
set_option maxRecDepth 4000
theorem RAt.set {s : Sto} {hid pid : Nat} {Ls : Pgs} {more : List (List AC)} {n k : Nat} {L : List Sl} (h : RAt s hid Ls (.arr pid 0 n)) (h1 : n = (ro eSls Ls).length) (hk : k < Ls.length) : RAt (upd s pid (.ar 1 (ro eSls (Ls.set k L) ++ more))) hid (Ls.set k L) (.arr pid 0 n) ∧ Chg s (upd s pid (.ar 1 (ro eSls (Ls.set k L) ++ more))) (ow hid (.arr pid 0 n)) (ow hid (.arr pid 0 n)) := by
  have hne : hid ≠ pid := by
    cases h.li with
    | arr _ m _ a b => intro e; subst e; rw [h.bx] at b; cases b
  refine ⟨⟨by rw [upd_ne _ hne]; exact h.bx, .arr _ more _ (by rw [h1, ro_length, ro_length, List.length_set]) (upd_same _ _ _)⟩, fun i o hi hA => ⟨?_, hA⟩⟩
  rw [upd_ne _ (fun e => hA (.inr ⟨n, by rw [e]⟩))]
  exact hi
theorem RAt.add {s : Sto} {hid pid id : Nat} {Ls : Pgs} {n : Nat} {L : List Sl} (h : RAt s hid Ls (.arr pid 0 n)) (h1 : n = Ls.length) (hn : s id = none) : RAt (upd (upd (del s pid) id (.ar 1 (ro eSls Ls ++ [[eSls L]]))) hid (.bx [.arr id 0 (n + 1)])) hid (Ls ++ [L]) (.arr id 0 (n + 1)) ∧ Chg s (upd (upd (del s pid) id (.ar 1 (ro eSls Ls ++ [[eSls L]]))) hid (.bx [.arr id 0 (n + 1)])) (ow hid (.arr pid 0 n)) (ow hid (.arr id 0 (n + 1))) := by
  have h2 : id ≠ hid := fun e => by subst e; rw [h.bx] at hn; cases hn
  refine ⟨⟨upd_same _ _ _, .arr _ [] _ (by rw [ro_length, List.length_append, h1]; rfl) (by rw [upd_ne _ h2, upd_same]; simp [ro])⟩, fun i o hi hA => ?_⟩
  have h3 : i ≠ hid := fun e => hA (.inl e)
  have h4 : i ≠ pid := fun e => hA (.inr ⟨n, by rw [e]⟩)
  have h5 : i ≠ id := fun e => by subst e; rw [hn] at hi; cases hi
  refine ⟨by rw [upd_ne _ h3, upd_ne _ h5]; unfold del; rw [if_neg h4]; exact hi, fun hB => ?_⟩
  rcases hB with e | ⟨l, e⟩
  · exact h3 e
  · cases e; exact h5 rfl
theorem RAt.one {s : Sto} {hid id : Nat} {L : List Sl} (h : RAt s hid [] (.v (.slice none 0 0))) (hn : s id = none) : RAt (upd (upd s id (.ar 1 [[eSls L]])) hid (.bx [.arr id 0 1])) hid [L] (.arr id 0 1) ∧ Chg s (upd (upd s id (.ar 1 [[eSls L]])) hid (.bx [.arr id 0 1])) (ow hid (.v (.slice none 0 0))) (ow hid (.arr id 0 1)) := by
  have h2 : id ≠ hid := fun e => by subst e; rw [h.bx] at hn; cases hn
  refine ⟨⟨upd_same _ _ _, .arr _ [] _ rfl (by rw [upd_ne _ h2, upd_same]; rfl)⟩, fun i o hi hA => ?_⟩
  have h3 : i ≠ hid := fun e => hA (.inl e)
  have h5 : i ≠ id := fun e => by subst e; rw [hn] at hi; cases hi
  refine ⟨by rw [upd_ne _ h3, upd_ne _ h5]; exact hi, fun hB => ?_⟩
  rcases hB with e | ⟨l, e⟩
  · exact h3 e
  · cases e; exact h5 rfl
theorem RAt.cut {s : Sto} {hid pid : Nat} {Ls : Pgs} {n m : Nat} (h : RAt s hid Ls (.arr pid 0 n)) (hm : m ≤ n) : RAt (upd s hid (.bx [.arr pid 0 m])) hid (Ls.take m) (.arr pid 0 m) ∧ Chg s (upd s hid (.bx [.arr pid 0 m])) (ow hid (.arr pid 0 n)) (ow hid (.arr pid 0 m)) := by
  cases h.li with
  | arr _ more _ h1 h2 =>
  have hne : pid ≠ hid := fun e => by subst e; rw [h.bx] at h2; cases h2
  have hn : n = Ls.length := by rw [h1, ro_length]
  refine ⟨⟨upd_same _ _ _, .arr _ (ro eSls (Ls.drop m) ++ more) _ (by rw [ro_length, List.length_take]; omega) ?_⟩, fun i o hi hA => ?_⟩
  · rw [upd_ne _ hne, h2]
    have : ro eSls Ls = ro eSls (Ls.take m) ++ ro eSls (Ls.drop m) := by unfold ro; rw [← List.map_append, List.take_append_drop]
    rw [this, List.append_assoc]
  · have h3 : i ≠ hid := fun e => hA (.inl e)
    refine ⟨by rw [upd_ne _ h3]; exact hi, fun hB => ?_⟩
    rcases hB with e | ⟨l, e⟩
    · exact h3 e
    · cases e; exact hA (.inr ⟨n, rfl⟩)
theorem RAt.upd {s : Sto} {hid id : Nat} {Ls : Pgs} {x : AC} {o : Ob} (h : RAt s hid Ls x) (hn : ¬ ow hid x id) : RAt (Pm.upd s id o) hid Ls x :=
  ⟨by rw [upd_ne _ (fun e => hn (.inl e.symm))]; exact h.bx, h.li.mono fun i l o e ho => by rw [upd_ne _ (fun e2 => by subst e2; exact hn (.inr ⟨l, e⟩))]; exact ho⟩
theorem RAt.new {s : Sto} {hid id : Nat} {Ls : Pgs} {x : AC} (h : RAt s hid Ls x) (hn : s id = none) : ¬ ow hid x id := fun e => by
  rcases e with e | ⟨l, e⟩
  · rw [e, h.bx] at hn; cases hn
  · subst e
    cases h.li with
    | arr _ m _ a b => rw [b] at hn; cases hn
theorem RAt.ln {s : Sto} {hid : Nat} {Ls : Pgs} (h : RAt s hid Ls (.v (.slice none 0 0))) : Ls.length = 0 := by
  cases h.li with
  | nil h0 => rw [← ro_length (enc := eSls), h0]; rfl
theorem RAt.le {s s' : Sto} {hid : Nat} {Ls : Pgs} {x : AC} (h : RAt s hid Ls x) (k : Le s s') : RAt s' hid Ls x := ⟨k _ _ h.bx, h.li.mono fun i l o e ho => k _ _ ho⟩
theorem stY {S : Sto} {hid q : Nat} {x x' : AC} {F : Sto → Prop} (hb : S hid = some (.bx [x])) (hq : q ≤ 1) (K : F (Pm.upd S hid (.bx [x']))) : ∃ cs, S hid = some (.bx cs) ∧ q ≤ cs.length ∧ F (Pm.upd S hid (.bx (putAt cs 0 [x']))) := ⟨_, hb, hq, K⟩
end Go.Proofs.Ytfkkajibaeppbaa.D
namespace Go.Proofs.Ytfkkajibaeppbaa.D
set_option linter.unusedVariables false
set_option linter.unusedSimpArgs false
open Go Go.Proofs.Ytfkkajibaeppbaa.D.Pm
set_option maxRecDepth 4000
theorem hrput_does {st : Sto} {hid : Nat} {Ls : Pgs} {x : AC} (hH : RAt st hid Ls x) (hO : OkH Ls) {d : By} (hd : d.length ≤ 100000) : Does Try.prog 51 [.c (.ptr hid 0), .c (.sl 1 (byl d))] st fun r s => r = .t [.g (rid (putH Ls d).2.1), vI .i64 ((putH Ls d).2.2 : Nat)] ∧ ∃ x', RAt s hid (putH Ls d).1 x' ∧ Chg st s (ow hid x) (ow hid x') := by
  have hbl : ((byl d).length : Int) = (d.length : Int) := by rw [byl_length]
  have h64 := hO.2
  refine Does.of TP Try.func51 rfl rfl (Nat.le_of_ble_eq_true rfl) (Pw.of TP [1] ?_)
  conv => whnf
  intro id4 h4
  conv => whnf
  refine Pw.gen fun S eS => ?_
  have eS : S = upd st id4 (.bx [.v (.int .i64 0), .v (.int .i64 0)]) := eS
  have hS : RAt S hid Ls x := by rw [eS]; exact hH.upd (hH.new h4)
  have hC : Chg st S (ow hid x) (ow hid x) := by rw [eS]; exact Chg.up h4
  have h4S : S id4 = some (.bx [.v (.int .i64 0), .v (.int .i64 0)]) := by rw [eS]; exact upd_same _ _ _
  have h4n := hH.new h4
  refine Pw.of TP [10] ?_
  conv => whnf
  rw [hbl]
  refine ⟨fun hlong => ?_, fun hlong => ?_⟩ <;> conv => whnf
  · have e2 : putH Ls d = (Ls, (0, 0), 3) := by unfold putH; rw [if_pos (by omega)]
    rw [e2]
    (apply Exists.intro; apply And.intro; (first | ((with_reducible (repeat (refine Eq.trans (upd_ne _ ?_) ?_; (first | assumption | (apply Ne.symm; assumption))))); first | exact upd_same _ _ _ | assumption) | ((repeat (refine Eq.trans (upd_ne _ ?_) ?_; (first | assumption | (apply Ne.symm; assumption)))); first | exact upd_same _ _ _ | assumption)); refine ⟨Nat.le_of_ble_eq_true rfl, ?_⟩; conv => whnf)
    (apply Exists.intro; apply And.intro; (first | ((with_reducible (repeat (refine Eq.trans (upd_ne _ ?_) ?_; (first | assumption | (apply Ne.symm; assumption))))); first | exact upd_same _ _ _ | assumption) | ((repeat (refine Eq.trans (upd_ne _ ?_) ?_; (first | assumption | (apply Ne.symm; assumption)))); first | exact upd_same _ _ _ | assumption)); conv => whnf)
    exact Fin.same rfl (.refl _) ⟨rfl, _, hS.upd h4n, hC.upd h4⟩
  have hlong : ¬ 255 < d.length := by omega
  have hrput0 := rput_is (l := []) (Nat.zero_le _) (fun s h => by cases h) d hd
  have e0 : putS [] d = (putL [] d, 0, 0) := by unfold putS; rw [if_neg hlong, if_neg (by have := Ok.one (d := d) (by omega); omega)]; rfl
  rw [e0] at hrput0
  have hli := hS.li
  cases hli with
  | nil h0 =>
    have hLs : Ls = [] := by
      cases Ls with
      | nil => rfl
      | cons a l => cases h0
    subst hLs
    refine Pw.rng (τ := Unit) 6 0 (by decide) [0, 1, 4] (fun _ => []) (fun k _ => True) () rfl trivial trivial fun k _ hk hf => Pw.of TP [] ?_
    conv => whnf
    refine ⟨_, hS.bx, ?_⟩
    conv => whnf
    refine ⟨fun hk1 => ?_, fun hk1 => ?_⟩ <;> conv => whnf
    · exfalso
      omega
    have e2 : putH ([] : Pgs) d = ([putL [] d], (0, 0), 0) := by unfold putH; rw [if_neg hlong, dif_neg (show ¬ fitK [] d < ([] : Pgs).length from Nat.not_lt_zero _), if_neg (by decide)]; rfl
    rw [e2]
    refine Pw.of TP [] ?_
    conv => whnf
    refine ⟨_, hS.bx, ?_⟩
    conv => whnf
    refine ⟨fun h => absurd h (by decide), fun _ => ?_⟩
    conv => whnf
    refine Does.args (as' := [.c (eSls []), .c (.sl 1 (byl d))]) rfl (fun j r r' h1 h2 => ?_) ?_
    · match j, h1, h2 with
      | 0, h1, h2 => cases h1; cases h2; exact FV.nil _ _ 2
      | 1, h1, h2 => cases h1; cases h2; exact .refl _
      | j + 2, h1, h2 => simp at h1
    refine hrput0.call ?_
    conv => whnf
    refine ⟨_, hS.bx, ?_⟩
    conv => whnf
    refine app_nil (c := eSls (putL [] d)) rfl (by decide) fun id' hid' => ?_
    have hne : id' ≠ hid := fun e => by subst e; rw [hS.bx] at hid'; cases hid'
    conv => whnf
    refine stY ((upd_ne _ (fun e => hne e.symm)).trans hS.bx) (Nat.le_of_ble_eq_true rfl) ?_
    have hst := hS.one (L := putL [] d) hid'
    obtain ⟨h4S2, h4n2⟩ := hst.2 id4 _ h4S h4n
    conv => whnf
    refine ⟨_, hst.1.bx, ?_⟩
    conv => whnf
    (apply Exists.intro; apply And.intro; (first | ((with_reducible (repeat (refine Eq.trans (upd_ne _ ?_) ?_; (first | assumption | (apply Ne.symm; assumption))))); first | exact upd_same _ _ _ | assumption) | ((repeat (refine Eq.trans (upd_ne _ ?_) ?_; (first | assumption | (apply Ne.symm; assumption)))); first | exact upd_same _ _ _ | assumption)); refine ⟨Nat.le_of_ble_eq_true rfl, ?_⟩; conv => whnf)
    (apply Exists.intro; apply And.intro; (first | ((with_reducible (repeat (refine Eq.trans (upd_ne _ ?_) ?_; (first | assumption | (apply Ne.symm; assumption))))); first | exact upd_same _ _ _ | assumption) | ((repeat (refine Eq.trans (upd_ne _ ?_) ?_; (first | assumption | (apply Ne.symm; assumption)))); first | exact upd_same _ _ _ | assumption)); conv => whnf)
    exact Fin.same rfl (.refl _) ⟨rfl, _, hst.1.upd h4n2, (hC.trans hst.2).upd h4⟩
  | arr pid more n h1 h2 =>
    have hnl : n = Ls.length := by rw [h1, ro_length]
    refine Pw.rng (τ := Unit) 6 n (by unfold Big; omega) [0, 1, 4] (fun _ => []) (fun k _ => k ≤ fitK Ls d) () rfl trivial (Nat.zero_le _) fun k _ hk hf => Pw.of TP [] ?_
    conv => whnf
    refine ⟨_, hS.bx, ?_⟩
    conv => whnf
    refine ⟨fun hk1 => ?_, fun hk1 => ?_⟩ <;> conv => whnf
    · have hk1 : k < n := by omega
      refine ⟨_, hS.bx, ?_⟩
      conv => whnf
      refine ⟨by omega, by omega, ⟨_, h2⟩, ?_⟩
      conv => whnf
      have hkl : k < Ls.length := by omega
      refine ⟨1, _, [eSls Ls[k]], h2, ro_at hkl (by omega), ?_⟩
      conv => whnf
      have hOk := hO.1 _ (List.getElem_mem hkl)
      have hput := rput_is (l := Ls[k]) (by have := hOk.len; omega) hOk.few d hd
      have hfit := fitK_at hkl hf
      by_cases hbad : 512 < need (putL Ls[k] d)
      · have e1 : putS Ls[k] d = ([], 0, 5) := by unfold putS; rw [if_neg hlong, if_pos hbad]
        rw [e1] at hput
        refine hput.call ?_
        conv => whnf
        refine ⟨fun h => absurd h (by decide), fun _ => ?_⟩
        conv => whnf
        exact ⟨hk1, rfl, ⟨rfl, rfl, rfl, trivial⟩, (), trivial, .refl _, hfit.2 (by omega)⟩
      · have e1 : putS Ls[k] d = (putL Ls[k] d, firstE Ls[k], 0) := by unfold putS; rw [if_neg hlong, if_neg hbad]
        have ek := hfit.1 (by omega)
        have e2 : putH Ls d = (Ls.set k (putL Ls[k] d), (k, firstE Ls[k]), 0) := by
          subst ek
          unfold putH; rw [if_neg hlong, dif_pos hkl]
        rw [e1] at hput
        rw [e2]
        refine hput.call ?_
        conv => whnf
        refine ⟨fun _ => ?_, fun h => absurd rfl h⟩
        conv => whnf
        refine ⟨_, hS.bx, ?_⟩
        conv => whnf
        refine ⟨by omega, by omega, ⟨_, h2⟩, ?_⟩
        conv => whnf
        refine stR (L := putL Ls[k] d) h2 hkl (show 0 + ((k : Nat) : Int).toNat = k by omega) rfl ?_
        have hst := hS.set (more := more) (L := putL Ls[k] d) h1 hkl
        obtain ⟨h4S2, h4n2⟩ := hst.2 id4 _ h4S h4n
        conv => whnf
        (apply Exists.intro; apply And.intro; (first | ((with_reducible (repeat (refine Eq.trans (upd_ne _ ?_) ?_; (first | assumption | (apply Ne.symm; assumption))))); first | exact upd_same _ _ _ | assumption) | ((repeat (refine Eq.trans (upd_ne _ ?_) ?_; (first | assumption | (apply Ne.symm; assumption)))); first | exact upd_same _ _ _ | assumption)); refine ⟨Nat.le_of_ble_eq_true rfl, ?_⟩; conv => whnf)
        (apply Exists.intro; apply And.intro; (first | ((with_reducible (repeat (refine Eq.trans (upd_ne _ ?_) ?_; (first | assumption | (apply Ne.symm; assumption))))); first | exact upd_same _ _ _ | assumption) | ((repeat (refine Eq.trans (upd_ne _ ?_) ?_; (first | assumption | (apply Ne.symm; assumption)))); first | exact upd_same _ _ _ | assumption)); conv => whnf)
        exact Fin.same rfl (.refl _) ⟨rfl, _, hst.1.upd h4n2, (hC.trans hst.2).upd h4⟩
    have hfk : fitK Ls d = Ls.length := by have := fitK_le Ls d; omega
    refine Pw.of TP [] ?_
    conv => whnf
    refine ⟨_, hS.bx, ?_⟩
    conv => whnf
    refine ⟨fun h => ?_, fun h => ?_⟩ <;> conv => whnf
    · have e2 : putH Ls d = (Ls, (0, 0), 5) := by unfold putH; rw [if_neg hlong, dif_neg (by omega), if_pos (by omega)]
      rw [e2]
      (apply Exists.intro; apply And.intro; (first | ((with_reducible (repeat (refine Eq.trans (upd_ne _ ?_) ?_; (first | assumption | (apply Ne.symm; assumption))))); first | exact upd_same _ _ _ | assumption) | ((repeat (refine Eq.trans (upd_ne _ ?_) ?_; (first | assumption | (apply Ne.symm; assumption)))); first | exact upd_same _ _ _ | assumption)); refine ⟨Nat.le_of_ble_eq_true rfl, ?_⟩; conv => whnf)
      (apply Exists.intro; apply And.intro; (first | ((with_reducible (repeat (refine Eq.trans (upd_ne _ ?_) ?_; (first | assumption | (apply Ne.symm; assumption))))); first | exact upd_same _ _ _ | assumption) | ((repeat (refine Eq.trans (upd_ne _ ?_) ?_; (first | assumption | (apply Ne.symm; assumption)))); first | exact upd_same _ _ _ | assumption)); conv => whnf)
      exact Fin.same rfl (.refl _) ⟨rfl, _, hS.upd h4n, hC.upd h4⟩
    have e2 : putH Ls d = (Ls ++ [putL [] d], (Ls.length, 0), 0) := by unfold putH; rw [if_neg hlong, dif_neg (by omega), if_neg (by omega)]
    rw [e2]
    refine Does.args (as' := [.c (eSls []), .c (.sl 1 (byl d))]) rfl (fun j r r' h1 h2 => ?_) ?_
    · match j, h1, h2 with
      | 0, h1, h2 => cases h1; cases h2; exact FV.nil _ _ 2
      | 1, h1, h2 => cases h1; cases h2; exact .refl _
      | j + 2, h1, h2 => simp at h1
    refine hrput0.call ?_
    conv => whnf
    refine ⟨_, hS.bx, ?_⟩
    conv => whnf
    refine app_arr (c := eSls (putL [] d)) rfl (by decide) h2 h1 (by omega) fun id' hid' => ?_
    have hne : id' ≠ hid := fun e => by subst e; rw [hS.bx] at hid'; cases hid'
    have hnp : hid ≠ pid := fun e => by subst e; rw [hS.bx] at h2; cases h2
    have hdel : del S pid hid = some (.bx [.arr pid 0 n]) := by unfold del; rw [if_neg hnp]; exact hS.bx
    conv => whnf
    refine stY ((upd_ne _ (fun e => hne e.symm)).trans hdel) (Nat.le_of_ble_eq_true rfl) ?_
    have hst := hS.add (L := putL [] d) hnl hid'
    obtain ⟨h4S2, h4n2⟩ := hst.2 id4 _ h4S h4n
    conv => whnf
    refine ⟨_, hst.1.bx, ?_⟩
    conv => whnf
    have hw : IntKind.i64.wrap (((n + 1 : Nat) : Int) - 1) = (Ls.length : Int) := by rw [wrap_id (by omega) (by omega)]; omega
    rw [hw]
    (apply Exists.intro; apply And.intro; (first | ((with_reducible (repeat (refine Eq.trans (upd_ne _ ?_) ?_; (first | assumption | (apply Ne.symm; assumption))))); first | exact upd_same _ _ _ | assumption) | ((repeat (refine Eq.trans (upd_ne _ ?_) ?_; (first | assumption | (apply Ne.symm; assumption)))); first | exact upd_same _ _ _ | assumption)); refine ⟨Nat.le_of_ble_eq_true rfl, ?_⟩; conv => whnf)
    (apply Exists.intro; apply And.intro; (first | ((with_reducible (repeat (refine Eq.trans (upd_ne _ ?_) ?_; (first | assumption | (apply Ne.symm; assumption))))); first | exact upd_same _ _ _ | assumption) | ((repeat (refine Eq.trans (upd_ne _ ?_) ?_; (first | assumption | (apply Ne.symm; assumption)))); first | exact upd_same _ _ _ | assumption)); conv => whnf)
    exact Fin.same rfl (.refl _) ⟨rfl, _, hst.1.upd h4n2, (hC.trans hst.2).upd h4⟩
end Go.Proofs.Ytfkkajibaeppbaa.D
namespace Go.Proofs.Ytfkkajibaeppbaa.D
set_option linter.unusedVariables false
set_option linter.unusedSimpArgs false
open Go Go.Proofs.Ytfkkajibaeppbaa.D.Pm
set_option maxRecDepth 4000
theorem hrhas_does {st : Sto} {hid : Nat} {Ls : Pgs} {x : AC} (hH : RAt st hid Ls x) (p s : Int) : Does Try.prog 67 [.c (.ptr hid 0), .g (ridI p s)] st fun r s' => r = vB (getH Ls p s).isSome ∧ s' = st := by
  refine Does.of TP Try.func67 rfl rfl (Nat.le_of_ble_eq_true rfl) (Pw.of TP [] ?_)
  have hfin : ∀ b, (getH Ls p s).isSome = b → vB b = vB (getH Ls p s).isSome := fun b h => by rw [h]
  unfold getH at hfin ⊢
  conv => whnf
  refine Pw.drw TP mixed (by kernel_rfl) ?_; conv => whnf
  refine ⟨fun h1 => ?_, fun h1 => ?_⟩ <;> conv => whnf
  rotate_left
  · rw [pgH_none (.inl (by omega))] at hfin ⊢
    exact Fin.pure
  refine ⟨_, hH.bx, ?_⟩
  have hli := hH.li
  cases hli with
  | nil h0 =>
    have hLs : Ls = [] := by
      cases Ls with
      | nil => rfl
      | cons a l => cases h0
    conv => whnf
    refine ⟨fun h2 => ?_, fun h2 => ?_⟩ <;> conv => whnf
    · exfalso; omega
    · rw [pgH_none (.inr (by rw [hLs]; exact h1)) ]
      exact Fin.pure
  | arr pid more n k1 k2 =>
    have hn : n = Ls.length := by rw [k1, ro_length]
    conv => whnf
    refine ⟨fun h2 => ?_, fun h2 => ?_⟩ <;> conv => whnf
    rotate_left
    · rw [pgH_none (.inr (by omega))]
      exact Fin.pure
    obtain ⟨k, rfl⟩ : ∃ k : Nat, p = (k : Int) := ⟨p.toNat, by omega⟩
    have hk : k < Ls.length := by omega
    rw [pgH_at hk]
    dsimp only
    refine ⟨fun h3 => ?_, fun h3 => ?_⟩ <;> conv => whnf
    rotate_left
    · have : getS Ls[k] s = none := by unfold getS; rw [if_pos (by omega)]
      rw [this]
      exact Fin.pure
    obtain ⟨j, rfl⟩ : ∃ j : Nat, s = (j : Int) := ⟨s.toNat, by omega⟩
    have hgs : getS Ls[k] (j : Int) = gs Ls[k] j := getS_gs _ _
    refine ⟨_, hH.bx, ?_⟩
    conv => whnf
    refine ⟨by omega, by omega, ⟨_, k2⟩, ?_⟩
    conv => whnf
    refine ⟨1, _, [eSls Ls[k]], k2, ro_at hk (by omega), ?_⟩
    conv => whnf
    rw [hgs]
    have hll : ((Ls[k].map eSl).length : Int) = (Ls[k].length : Nat) := by rw [List.length_map]
    refine ⟨fun h4 => ?_, fun h4 => ?_⟩ <;> conv => whnf
    rotate_left
    · have : gs Ls[k] j = none := by unfold gs; rw [List.getElem?_eq_none (by omega)]; rfl
      rw [this]
      exact Fin.pure
    have hj : j < Ls[k].length := by omega
    refine ⟨_, hH.bx, ?_⟩
    conv => whnf
    refine ⟨by omega, by omega, ⟨_, k2⟩, ?_⟩
    conv => whnf
    refine ⟨1, _, [eSls Ls[k]], k2, ro_at hk (by omega), ?_⟩
    conv => whnf
    refine ixm hj ?_
    have hg : gs Ls[k] j = Ls[k][j] := by unfold gs; rw [List.getElem?_eq_getElem hj]; rfl
    rw [hg]
    generalize Ls[k][j] = t
    cases t <;> conv => whnf
    · exact Fin.pure
    · exact Fin.pure
theorem hrtrim_does {st : Sto} {hid pid n : Nat} {Ls : Pgs} (hH : RAt st hid Ls (.arr pid 0 n)) (hO : OkH Ls) : Does Try.prog 68 [.c (.ptr hid 0)] st fun r s => r = .t [] ∧ ∃ m, RAt s hid (trH Ls) (.arr pid 0 m) ∧ Chg st s (ow hid (.arr pid 0 n)) (ow hid (.arr pid 0 m)) := by
  have hli := hH.li
  cases hli with
  | arr _ more _ h1 h2 =>
  have hn : n = Ls.length := by rw [h1, ro_length]
  have h64 := hO.2
  refine Does.of TP Try.func68 rfl rfl (Nat.le_of_ble_eq_true rfl) (Pw.of TP [] ?_)
  conv => whnf
  refine ⟨_, hH.bx, ?_⟩
  conv => whnf
  refine Pw.loop (σ := Nat) (fun m => [(2, vI .i64 (m : Int)), (0, .c (.ptr hid 0))]) (fun _ => st) (fun m => m ≤ n ∧ trK Ls m = trK Ls n) (fun m => m) ⟨n, .mk ⟨rfl, rfl, trivial⟩ (.refl _), Nat.le_refl _, rfl⟩ ?_
  rintro m ⟨hm, ht⟩
  refine Pw.of TP [] ?_
  conv => whnf
  have hend : trK Ls m = m → RAt (upd st hid (.bx [.arr pid 0 m])) hid (trH Ls) (.arr pid 0 m) ∧ Chg st (upd st hid (.bx [.arr pid 0 m])) (ow hid (.arr pid 0 n)) (ow hid (.arr pid 0 m)) := fun e => by
    have := hH.cut hm
    unfold trH
    rw [← hn, ← ht, e]
    exact this
  refine ⟨fun h => ?_, fun h => ?_⟩ <;> conv => whnf
  · obtain ⟨q, rfl⟩ : ∃ q, m = q + 1 := ⟨m - 1, by omega⟩
    have hq : q < Ls.length := by omega
    have hw : IntKind.i64.wrap (((q + 1 : Nat) : Int) - 1) = (q : Int) := by rw [wrap_id (by omega) (by omega)]; omega
    refine ⟨_, hH.bx, ?_⟩
    conv => whnf
    rw [hw]
    refine ⟨by omega, by omega, ⟨_, h2⟩, ?_⟩
    conv => whnf
    refine ⟨1, _, [eSls Ls[q]], h2, ro_at hq (by omega), ?_⟩
    conv => whnf
    have hOk := hO.1 _ (List.getElem_mem hq)
    refine (rslots_is (l := Ls[q]) (by have := hOk.len; omega)).call ?_
    have e : (nums (slotL 0 Ls[q])).length = (slotL 0 Ls[q]).length := by simp [nums]
    conv => whnf
    rw [e]
    refine ⟨fun h5 => ?_, fun h5 => ?_⟩ <;> conv => whnf
    · have hb : usL Ls[q] = false := decide_eq_false (by omega)
      refine ⟨q, .mk ⟨congrArg (fun x => some (vI .i64 x)) hw, rfl, trivial⟩ (.refl _), ⟨by omega, by rw [← ht, (trK_at hq).2 hb]⟩, by omega⟩
    · have hb : usL Ls[q] = true := decide_eq_true (by omega)
      have hst := hend ((trK_at hq).1 hb)
      refine ⟨_, hH.bx, ?_⟩
      conv => whnf
      refine ⟨⟨_, h2⟩, ?_⟩
      conv => whnf
      refine ⟨Int.le_refl 0, by omega, by omega, ?_⟩
      conv => whnf
      refine stY (x' := .arr pid 0 (q + 1)) hH.bx (Nat.le_of_ble_eq_true rfl) ?_
      conv => whnf
      exact Fin.same rfl (.refl _) ⟨rfl, _, hst.1, hst.2⟩
  · have hm0 : m = 0 := by omega
    subst hm0
    have hst := hend rfl
    refine ⟨_, hH.bx, ?_⟩
    conv => whnf
    refine ⟨⟨_, h2⟩, ?_⟩
    conv => whnf
    refine ⟨Int.le_refl 0, Int.le_refl 0, by omega, ?_⟩
    conv => whnf
    refine stY (x' := .arr pid 0 0) hH.bx (Nat.le_of_ble_eq_true rfl) ?_
    conv => whnf
    exact Fin.same rfl (.refl _) ⟨rfl, _, hst.1, hst.2⟩
theorem getH_at {Ls : Pgs} {p s : Int} {d : By} (h : getH Ls p s = some d) : ∃ k j : Nat, p = (k : Int) ∧ s = (j : Int) ∧ ∃ hk : k < Ls.length, ∃ hj : j < Ls[k].length, Ls[k][j] = some d := by
  unfold getH at h
  cases hp : pgH Ls p with
  | none => rw [hp] at h; cases h
  | some L =>
    rw [hp] at h
    obtain ⟨k, rfl, hk, rfl⟩ := pgH_some hp
    obtain ⟨j, rfl, hj, _⟩ := find_some h
    obtain ⟨h1, h2⟩ := List.getElem?_eq_some_iff.1 hj
    exact ⟨k, j, rfl, rfl, hk, h1, h2⟩
theorem hrget_does {st : Sto} {hid : Nat} {Ls : Pgs} {x : AC} (hH : RAt st hid Ls x) (p s : Int) : Does Try.prog 54 [.c (.ptr hid 0), .g (ridI p s)] st fun r s' => r = getR (getH Ls p s) ∧ s' = st := by
  refine Does.of TP Try.func54 rfl rfl (Nat.le_of_ble_eq_true rfl) (Pw.of TP [] ?_)
  conv => whnf
  refine (hrhas_does hH p s).go ?_
  cases hg : getH Ls p s with
  | none =>
    conv => whnf
    exact ⟨fun _ => false, st, _, FV.t2 (FV.nil _ _ 1) (.refl _), fun i o h => ⟨h, rfl⟩, rfl, rfl⟩
  | some d =>
    obtain ⟨k, j, rfl, rfl, hk, hj, hd⟩ := getH_at hg
    have hli := hH.li
    cases hli with
    | nil h0 => have := hH.ln; omega
    | arr pid more n k1 k2 =>
      have hn : n = Ls.length := by rw [k1, ro_length]
      conv => whnf
      refine Pw.drw TP mixed (by kernel_rfl) ?_; conv => whnf
      refine ⟨_, hH.bx, ?_⟩
      conv => whnf
      refine ⟨by omega, by omega, ⟨_, k2⟩, ?_⟩
      conv => whnf
      refine ⟨1, _, [eSls Ls[k]], k2, ro_at hk (by omega), ?_⟩
      conv => whnf
      refine ixm hj ?_
      rw [hd]
      conv => whnf
      exact Fin.pure
theorem dropH_none {Ls : Pgs} {p s : Int} (hg : getH Ls p s = none) : dropH Ls p s = (Ls, 4) := by
  unfold getH at hg
  unfold dropH
  cases hp : pgH Ls p with
  | none => rfl
  | some L =>
    rw [hp] at hg
    dsimp only at hg ⊢
    unfold dropS
    rw [hg]
    rfl
theorem hrdrop_does {st : Sto} {hid : Nat} {Ls : Pgs} {x : AC} (hH : RAt st hid Ls x) (hO : OkH Ls) (p s : Int) : Does Try.prog 53 [.c (.ptr hid 0), .g (ridI p s)] st fun r s' => r = vI .i64 ((dropH Ls p s).2 : Nat) ∧ ∃ x', RAt s' hid (dropH Ls p s).1 x' ∧ Chg st s' (ow hid x) (ow hid x') := by
  refine Does.of TP Try.func53 rfl rfl (Nat.le_of_ble_eq_true rfl) (Pw.of TP [] ?_)
  conv => whnf
  refine (hrhas_does hH p s).go ?_
  cases hg : getH Ls p s with
  | none =>
    have e : dropH Ls p s = (Ls, 4) := dropH_none hg
    rw [e]
    conv => whnf
    exact Fin.same rfl (.refl _) ⟨rfl, _, hH, Chg.refl⟩
  | some d =>
    obtain ⟨k, j, rfl, rfl, hk, hj, hd⟩ := getH_at hg
    have hOk := hO.1 _ (List.getElem_mem hk)
    have hdrop := rdrop_is (l := Ls[k]) (by have := hOk.len; omega) (j : Int)
    have kdrop := dropS_ok hOk (j : Int)
    have e0 : (dropS Ls[k] (j : Int)).2 = 0 := by
      unfold getH at hg
      rw [pgH_at hk] at hg
      dsimp only at hg
      unfold dropS
      rw [hg]
    have e1 : dropH Ls (k : Int) (j : Int) = (trH (Ls.set k (dropS Ls[k] (j : Int)).1), 0) := by
      unfold dropH
      rw [pgH_at hk]
      dsimp only
      rw [if_pos e0, Int.toNat_natCast]
    rw [e1]
    generalize dropS Ls[k] (j : Int) = D at kdrop hdrop e0
    obtain ⟨dl, de⟩ := D
    cases e0
    have hli := hH.li
    cases hli with
    | nil h0 => have := hH.ln; omega
    | arr pid more n h1 h2 =>
      have hn : n = Ls.length := by rw [h1, ro_length]
      have hst := hH.set (more := more) (L := dl) h1 hk
      conv => whnf
      refine Pw.drwQ TP mixed [21] 21 [3, 9, 12, 13, 20] (by kernel_rfl) ?_; conv => whnf
      refine ⟨_, hH.bx, ?_⟩
      conv => whnf
      refine ⟨_, hH.bx, ?_⟩
      conv => whnf
      refine ⟨by omega, by omega, ⟨_, h2⟩, ?_⟩
      conv => whnf
      refine ⟨1, _, [eSls Ls[k]], h2, ro_at hk (by omega), ?_⟩
      conv => whnf
      refine hdrop.draw ?_
      conv => whnf
      refine ⟨by omega, by omega, ⟨_, h2⟩, ?_⟩
      conv => whnf
      refine ⟨.refl _, ?_⟩
      conv => whnf
      refine stR (L := dl) h2 hk (show 0 + ((k : Nat) : Int).toNat = k by omega) rfl ?_
      conv => whnf
      refine (hrtrim_does hst.1 (hO.set (kdrop rfl) k)).mono fun r s' h => ?_
      obtain ⟨rfl, m, hm1, hm2⟩ := h
      conv => whnf
      exact Fin.same rfl (.refl _) ⟨rfl, _, hm1, hst.2.trans hm2⟩
end Go.Proofs.Ytfkkajibaeppbaa.D
namespace Go.Proofs.Ytfkkajibaeppbaa.D
set_option linter.unusedVariables false
set_option linter.unusedSimpArgs false
open Go Go.Proofs.Ytfkkajibaeppbaa.D.Pm
set_option maxRecDepth 4000
theorem setS_cases {L : List Sl} {s : Int} {d d0 : By} (hd : ¬ 255 < d.length) (hg : getS L s = some d0) : (setS L s d).2 = 0 ∨ (setS L s d).2 = 5 := by
  unfold setS
  rw [if_neg hd, hg]
  dsimp only
  split
  · exact .inr rfl
  · exact .inl rfl
theorem setH_none {Ls : Pgs} {p s : Int} {d : By} (hd : ¬ 255 < d.length) (hg : getH Ls p s = none) : setH Ls p s d = (Ls, (0, 0), 4) := by
  unfold getH at hg
  unfold setH
  cases hp : pgH Ls p with
  | none => dsimp only; rw [if_neg hd]
  | some L =>
    rw [hp] at hg
    dsimp only at hg ⊢
    unfold setS
    rw [if_neg hd, hg]
    rfl
theorem setH_long {Ls : Pgs} {p s : Int} {d : By} (hd : 255 < d.length) : setH Ls p s d = (Ls, (0, 0), 3) := by
  unfold setH
  cases hp : pgH Ls p with
  | none => dsimp only; rw [if_pos hd]
  | some L =>
    dsimp only
    unfold setS
    rw [if_pos hd]
    rfl
theorem hrset_does {st : Sto} {hid : Nat} {Ls : Pgs} {x : AC} (hH : RAt st hid Ls x) (hO : OkH Ls) (p s : Int) {d : By} (hd : d.length ≤ 100000) :
    Does Try.prog 52 [.c (.ptr hid 0), .g (ridI p s), .c (.sl 1 (byl d))] st fun r s' => r = .t [.g (rid (setH Ls p s d).2.1), vI .i64 ((setH Ls p s d).2.2 : Nat)] ∧ ∃ x', RAt s' hid (setH Ls p s d).1 x' ∧ Chg st s' (ow hid x) (ow hid x') := by
  have hbl : ((byl d).length : Int) = (d.length : Int) := by rw [byl_length]
  refine Does.of TP Try.func52 rfl rfl (Nat.le_of_ble_eq_true rfl) (Pw.of TP [1] ?_)
  conv => whnf
  intro id6 h6
  conv => whnf
  refine Pw.gen fun S eS => ?_
  have eS : S = upd st id6 (.bx [.v (.int .i64 0), .v (.int .i64 0)]) := eS
  have hS : RAt S hid Ls x := by rw [eS]; exact hH.upd (hH.new h6)
  have hC : Chg st S (ow hid x) (ow hid x) := by rw [eS]; exact Chg.up h6
  have h6S : S id6 = some (.bx [.v (.int .i64 0), .v (.int .i64 0)]) := by rw [eS]; exact upd_same _ _ _
  have h6n := hH.new h6
  refine Pw.of TP [] ?_
  conv => whnf
  rw [hbl]
  refine ⟨fun hlong => ?_, fun hlong => ?_⟩ <;> conv => whnf
  · rw [setH_long (by omega)]
    (apply Exists.intro; apply And.intro; (first | ((with_reducible (repeat (refine Eq.trans (upd_ne _ ?_) ?_; (first | assumption | (apply Ne.symm; assumption))))); first | exact upd_same _ _ _ | assumption) | ((repeat (refine Eq.trans (upd_ne _ ?_) ?_; (first | assumption | (apply Ne.symm; assumption)))); first | exact upd_same _ _ _ | assumption)); refine ⟨Nat.le_of_ble_eq_true rfl, ?_⟩; conv => whnf)
    (apply Exists.intro; apply And.intro; (first | ((with_reducible (repeat (refine Eq.trans (upd_ne _ ?_) ?_; (first | assumption | (apply Ne.symm; assumption))))); first | exact upd_same _ _ _ | assumption) | ((repeat (refine Eq.trans (upd_ne _ ?_) ?_; (first | assumption | (apply Ne.symm; assumption)))); first | exact upd_same _ _ _ | assumption)); conv => whnf)
    exact Fin.same rfl (.refl _) ⟨rfl, _, hS.upd h6n, hC.upd h6⟩
  have hlong : ¬ 255 < d.length := by omega
  refine (hrhas_does hS p s).go ?_
  cases hg : getH Ls p s with
  | none =>
    rw [setH_none hlong hg]
    conv => whnf
    (apply Exists.intro; apply And.intro; (first | ((with_reducible (repeat (refine Eq.trans (upd_ne _ ?_) ?_; (first | assumption | (apply Ne.symm; assumption))))); first | exact upd_same _ _ _ | assumption) | ((repeat (refine Eq.trans (upd_ne _ ?_) ?_; (first | assumption | (apply Ne.symm; assumption)))); first | exact upd_same _ _ _ | assumption)); refine ⟨Nat.le_of_ble_eq_true rfl, ?_⟩; conv => whnf)
    (apply Exists.intro; apply And.intro; (first | ((with_reducible (repeat (refine Eq.trans (upd_ne _ ?_) ?_; (first | assumption | (apply Ne.symm; assumption))))); first | exact upd_same _ _ _ | assumption) | ((repeat (refine Eq.trans (upd_ne _ ?_) ?_; (first | assumption | (apply Ne.symm; assumption)))); first | exact upd_same _ _ _ | assumption)); conv => whnf)
    exact Fin.same rfl (.refl _) ⟨rfl, _, hS.upd h6n, hC.upd h6⟩
  | some d0 =>
    obtain ⟨k, j, rfl, rfl, hk, hj, hd0⟩ := getH_at hg
    have hOk := hO.1 _ (List.getElem_mem hk)
    have hset := rset_is (l := Ls[k]) (by have := hOk.len; omega) hOk.few d hd (j : Int)
    have hgS : getS Ls[k] (j : Int) = some d0 := by
      unfold getH at hg
      rw [pgH_at hk] at hg
      exact hg
    have kc := setS_cases hlong hgS
    have kfull := setS_full (L := Ls[k]) (s := (j : Int)) (d := d)
    have e1 : setH Ls (k : Int) (j : Int) d = if (setS Ls[k] (j : Int) d).2 = 0 then (Ls.set k (setS Ls[k] (j : Int) d).1, (k, j), 0)
        else if (setS Ls[k] (j : Int) d).2 = 5 then moveH Ls k (Ls.set k (dropS Ls[k] (j : Int)).1) d
        else (Ls, (0, 0), (setS Ls[k] (j : Int) d).2) := by
      unfold setH
      rw [pgH_at hk]
      dsimp only
      rw [Int.toNat_natCast, Int.toNat_natCast]
    rw [e1]
    clear e1
    have hli := hS.li
    cases hli with
    | nil h0 => have := hS.ln; omega
    | arr pid more n h1 h2 =>
    have hn : n = Ls.length := by rw [h1, ro_length]
    conv => whnf
    refine Pw.drw TP mixed (by kernel_rfl) ?_; conv => whnf
    refine ⟨_, hS.bx, ?_⟩
    conv => whnf
    refine ⟨by omega, by omega, ⟨_, h2⟩, ?_⟩
    conv => whnf
    refine ⟨1, _, [eSls Ls[k]], h2, ro_at hk (by omega), ?_⟩
    conv => whnf
    refine hset.draw ?_
    generalize setS Ls[k] (j : Int) d = T at kc kfull
    obtain ⟨tl, te⟩ := T
    dsimp only at kc kfull ⊢
    rcases kc with rfl | rfl
    · rw [if_pos rfl]
      have hst := hS.set (more := more) (L := tl) h1 hk
      conv => whnf
      refine ⟨fun _ => ?_, fun h => absurd rfl h⟩
      conv => whnf
      refine Pw.drwQ TP mixed [8] 8 [3, 7] (by kernel_rfl) ?_; conv => whnf
      refine ⟨_, hS.bx, ?_⟩
      conv => whnf
      refine ⟨by omega, by omega, ⟨_, h2⟩, ?_⟩
      conv => whnf
      refine ⟨.refl _, ?_⟩
      conv => whnf
      refine stR (L := tl) h2 hk (show 0 + ((k : Nat) : Int).toNat = k by omega) rfl ?_
      obtain ⟨h63, h6n3⟩ := hst.2 id6 _ h6S h6n
      conv => whnf
      (apply Exists.intro; apply And.intro; (first | ((with_reducible (repeat (refine Eq.trans (upd_ne _ ?_) ?_; (first | assumption | (apply Ne.symm; assumption))))); first | exact upd_same _ _ _ | assumption) | ((repeat (refine Eq.trans (upd_ne _ ?_) ?_; (first | assumption | (apply Ne.symm; assumption)))); first | exact upd_same _ _ _ | assumption)); refine ⟨Nat.le_of_ble_eq_true rfl, ?_⟩; conv => whnf)
      (apply Exists.intro; apply And.intro; (first | ((with_reducible (repeat (refine Eq.trans (upd_ne _ ?_) ?_; (first | assumption | (apply Ne.symm; assumption))))); first | exact upd_same _ _ _ | assumption) | ((repeat (refine Eq.trans (upd_ne _ ?_) ?_; (first | assumption | (apply Ne.symm; assumption)))); first | exact upd_same _ _ _ | assumption)); conv => whnf)
      exact Fin.same rfl (.refl _) ⟨rfl, _, hst.1.upd h6n3, (hC.trans hst.2).upd h6⟩
    rw [if_neg (by decide), if_pos rfl]
    have hs := kfull rfl
    have hdrop := rdrop_is (l := Ls[k]) (by have := hOk.len; omega) (j : Int)
    have kdrop := dropS_ok hOk (j : Int) hs
    generalize dropS Ls[k] (j : Int) = D at hdrop kdrop hs
    obtain ⟨dl, de⟩ := D
    cases hs
    dsimp only at kdrop ⊢
    conv => whnf
    refine ⟨fun h => absurd h (show ¬ ((5 : Nat) : Int) = 0 by decide), fun _ => ?_⟩
    conv => whnf
    refine Pw.drw TP mixed (by kernel_rfl) ?_; conv => whnf
    refine ⟨_, hS.bx, ?_⟩
    conv => whnf
    refine ⟨by omega, by omega, ⟨_, h2⟩, ?_⟩
    conv => whnf
    refine ⟨1, _, [eSls Ls[k]], h2, ro_at hk (by omega), ?_⟩
    conv => whnf
    refine Pw.drwQ TP mixed [14] 14 [3, 13] (by kernel_rfl) ?_; conv => whnf
    refine ⟨_, hS.bx, ?_⟩
    conv => whnf
    refine hdrop.draw ?_
    conv => whnf
    refine ⟨by omega, by omega, ⟨_, h2⟩, ?_⟩
    conv => whnf
    refine ⟨.refl _, ?_⟩
    conv => whnf
    refine stR (L := dl) h2 hk (show 0 + ((k : Nat) : Int).toNat = k by omega) rfl ?_
    have hst := hS.set (more := more) (L := dl) h1 hk
    conv => whnf
    have hP := putH_ok (hO.set kdrop k) d
    have hB := putH_bad (Ls := Ls.set k dl) (d := d)
    have hLn := putH_len (Ls.set k dl) d
    rw [List.length_set] at hLn
    refine (hrput_does hst.1 (hO.set kdrop k) hd).mono fun r s2 h => ?_
    obtain ⟨rfl, x2, hm1, hm2⟩ := h
    unfold moveH
    generalize putH (Ls.set k dl) d = P at hm1 hP hB hLn
    obtain ⟨M, to, e⟩ := P
    dsimp only at hm1 hP hB hLn ⊢
    have hC2 : Chg st s2 (ow hid (.arr pid 0 n)) (ow hid x2) := hC.trans (hst.2.trans hm2)
    have hp6 : pid ≠ id6 := fun e => by subst e; rw [h2] at h6S; cases h6S
    obtain ⟨h62, h6n2⟩ := hm2 id6 _ (by rw [upd_ne _ (fun e => hp6 e.symm)]; exact h6S) h6n
    rcases e with _ | e
    · rw [if_pos rfl]
      conv => whnf
      refine ⟨fun h => absurd rfl h, fun _ => ?_⟩
      conv => whnf
      have hli2 := hm1.li
      cases hli2 with
      | nil h0 => have := hm1.ln; omega
      | arr pid2 more2 n2 k1 k2 =>
        refine (hrtrim_does hm1 hP).mono fun r s3 h => ?_
        obtain ⟨rfl, m, hm3, hm4⟩ := h
        obtain ⟨h63, h6n3⟩ := hm4 id6 _ h62 h6n2
        conv => whnf
        (apply Exists.intro; apply And.intro; (first | ((with_reducible (repeat (refine Eq.trans (upd_ne _ ?_) ?_; (first | assumption | (apply Ne.symm; assumption))))); first | exact upd_same _ _ _ | assumption) | ((repeat (refine Eq.trans (upd_ne _ ?_) ?_; (first | assumption | (apply Ne.symm; assumption)))); first | exact upd_same _ _ _ | assumption)); refine ⟨Nat.le_of_ble_eq_true rfl, ?_⟩; conv => whnf)
        (apply Exists.intro; apply And.intro; (first | ((with_reducible (repeat (refine Eq.trans (upd_ne _ ?_) ?_; (first | assumption | (apply Ne.symm; assumption))))); first | exact upd_same _ _ _ | assumption) | ((repeat (refine Eq.trans (upd_ne _ ?_) ?_; (first | assumption | (apply Ne.symm; assumption)))); first | exact upd_same _ _ _ | assumption)); conv => whnf)
        exact Fin.same rfl (.refl _) ⟨rfl, _, hm3.upd h6n3, (hC2.trans hm4).upd h6⟩
    · rw [if_neg (Nat.succ_ne_zero e)]
      have hM := hB (by omega)
      subst hM
      conv => whnf
      refine ⟨fun _ => ?_, fun h => absurd (show ¬ ((e + 1 : Nat) : Int) = 0 by omega) h⟩
      conv => whnf
      have hli2 := hm1.li
      cases hli2 with
      | nil h0 => have := hm1.ln; omega
      | arr pid2 more2 n2 k1 k2 =>
        have hkl : k < (Ls.set k dl).length := by rw [List.length_set]; exact hk
        have hst2 := hm1.set (more := more2) (L := Ls[k]) k1 hkl
        have hback : (Ls.set k dl).set k Ls[k] = Ls := by rw [List.set_set, List.set_getElem_self]
        rw [hback] at hst2
        have hn2 : n2 = Ls.length := by rw [k1, ro_length, List.length_set]
        refine Pw.drwQ TP mixed [8] 8 [3, 7] (by kernel_rfl) ?_; conv => whnf
        refine ⟨_, hm1.bx, ?_⟩
        conv => whnf
        refine ⟨by omega, by omega, ⟨_, k2⟩, ?_⟩
        conv => whnf
        refine ⟨.refl _, ?_⟩
        conv => whnf
        refine stR (L := Ls[k]) k2 hkl (show 0 + ((k : Nat) : Int).toNat = k by omega) rfl ?_
        rw [hback]
        obtain ⟨h63, h6n3⟩ := hst2.2 id6 _ h62 h6n2
        conv => whnf
        (apply Exists.intro; apply And.intro; (first | ((with_reducible (repeat (refine Eq.trans (upd_ne _ ?_) ?_; (first | assumption | (apply Ne.symm; assumption))))); first | exact upd_same _ _ _ | assumption) | ((repeat (refine Eq.trans (upd_ne _ ?_) ?_; (first | assumption | (apply Ne.symm; assumption)))); first | exact upd_same _ _ _ | assumption)); refine ⟨Nat.le_of_ble_eq_true rfl, ?_⟩; conv => whnf)
        (apply Exists.intro; apply And.intro; (first | ((with_reducible (repeat (refine Eq.trans (upd_ne _ ?_) ?_; (first | assumption | (apply Ne.symm; assumption))))); first | exact upd_same _ _ _ | assumption) | ((repeat (refine Eq.trans (upd_ne _ ?_) ?_; (first | assumption | (apply Ne.symm; assumption)))); first | exact upd_same _ _ _ | assumption)); conv => whnf)
        exact Fin.same rfl (.refl _) ⟨rfl, _, hst2.1.upd h6n3, (hC2.trans hst2.2).upd h6⟩
end Go.Proofs.Ytfkkajibaeppbaa.D
namespace Go.Proofs.Ytfkkajibaeppbaa.D
set_option linter.unusedVariables false
set_option linter.unusedSimpArgs false
open Go Go.Proofs.Ytfkkajibaeppbaa.D.Pm
set_option maxRecDepth 4000
theorem RAt.leG {s s' st : Sto} {hid : Nat} {Ls : Pgs} {x : AC} (h : RAt st hid Ls x) (k : Le st s) : RAt s hid Ls x := h.le k
theorem rpages_does {st : Sto} {hid : Nat} {Ls : Pgs} {x : AC} (hH : RAt st hid Ls x) (hO : OkH Ls) : Does Try.prog 58 [.c (.ptr hid 0)] st fun r s => r = .c (.sl 1 (ro pgC Ls)) ∧ s = st := by
  have h64 := hO.2
  refine Does.of TP Try.func58 rfl rfl (Nat.le_of_ble_eq_true rfl) (Pw.of TP [] ?_)
  conv => whnf
  have hli := hH.li
  cases hli with
  | nil h0 =>
    refine Pw.rng (τ := Unit) 4 0 (by decide) [0, 3] (fun _ => []) (fun k _ => True) () rfl trivial trivial fun k _ hk hf => Pw.of TP [] ?_
    conv => whnf
    refine ⟨_, hH.bx, ?_⟩
    conv => whnf
    refine ⟨fun hk1 => ?_, fun hk1 => ?_⟩ <;> conv => whnf
    · exfalso
      omega
    · refine Fin.grow (sz := 1) (rows := ro pgC Ls) ?_ (fun r hr => by obtain ⟨n, _, rfl⟩ := List.mem_map.1 hr; rfl) ⟨rfl, rfl⟩
      have hLs : Ls = [] := by
        cases Ls with
        | nil => rfl
        | cons a l => cases h0
      rw [hLs]
      exact .nil (.refl _)
  | arr pid more n h1 h2 =>
    have hn : n = Ls.length := by rw [h1, ro_length]
    refine Pw.rngS (τ := AC × Sto) 4 n (by unfold Big; omega) [0] (fun _ y => [(3, .c y.1)]) (fun _ y => y.2) (fun i y => Grow st 1 y.2 y.1 (ro pgC (Ls.take i))) (_, st) rfl ⟨rfl, trivial⟩ (.refl _) (.nil (.refl _)) ?_
    rintro k ⟨a, s⟩ hk hg
    dsimp only at hg ⊢
    refine Pw.of TP [] ?_
    conv => whnf
    have hHs := hH.le hg.le
    have h2s := hg.le _ _ h2
    refine ⟨_, hHs.bx, ?_⟩
    conv => whnf
    refine ⟨fun hk1 => ?_, fun hk1 => ?_⟩ <;> conv => whnf
    · have hk1 : k < n := by omega
      have hkl : k < Ls.length := by omega
      refine ⟨_, hHs.bx, ?_⟩
      conv => whnf
      refine ⟨by omega, by omega, ⟨_, h2s⟩, ?_⟩
      conv => whnf
      refine ⟨1, _, [eSls Ls[k]], h2s, ro_at hkl (by omega), ?_⟩
      conv => whnf
      have hOk := hO.1 _ (List.getElem_mem hkl)
      have htk : ro pgC (Ls.take (k + 1)) = ro pgC (Ls.take k) ++ [[pgC Ls[k]]] := by unfold ro; rw [List.take_succ_eq_append_getElem hkl, List.map_append]; rfl
      refine (bytes_is hOk.fit hOk.few).call ?_
      conv => whnf
      refine hg.app (by simp [ro]; unfold maxLen; omega) (by simp [ro]; omega) fun a' s' hg' hk' => ?_
      conv => whnf
      exact ⟨hk1, rfl, ⟨rfl, trivial⟩, (a', s'), ⟨rfl, trivial⟩, .refl _, by rw [htk]; exact hg'⟩
    · have hkn : k = Ls.length := by omega
      subst hkn
      rw [List.take_length] at hg
      exact Fin.grow hg (fun r hr => by obtain ⟨n, _, rfl⟩ := List.mem_map.1 hr; rfl) ⟨rfl, rfl⟩
/-- items of a page, from a slot on -/
def itS (n : Nat) : Nat → List Sl → List It
  | _, [] => []
  | i, none :: r => itS n (i + 1) r
  | i, some d :: r => (n, i, d) :: itS n (i + 1) r
theorem itS_eq (n : Nat) (M : List Sl) : ∀ (l : List Sl) (i : Nat), (∀ j, gs M (i + j) = gs l j) → itS n i l = (slotL i l).map (itG n M)
  | [], i, h => rfl
  | none :: l, i, h => itS_eq n M l (i + 1) (fun j => by rw [show i + 1 + j = i + (j + 1) by omega, h]; rfl)
  | some d :: l, i, h => by
    rw [itS, slotL, List.map_cons, itS_eq n M l (i + 1) (fun j => by rw [show i + 1 + j = i + (j + 1) by omega, h]; rfl)]
    have h0 : gs M i = some d := h 0
    unfold itG
    rw [h0]
    rfl
theorem itS_itL (n : Nat) (L : List Sl) : itS n 0 L = itL n L := itS_eq n L L 0 (fun j => by rw [Nat.zero_add])
theorem itS_app (n : Nat) : ∀ (l m : List Sl) (i : Nat), itS n i (l ++ m) = itS n i l ++ itS n (i + l.length) m
  | [], m, i => rfl
  | none :: l, m, i => by
    have := itS_app n l m (i + 1)
    simp only [List.cons_append, itS, List.length_cons]
    rw [this, show i + 1 + l.length = i + (l.length + 1) by omega]
  | some d :: l, m, i => by
    have := itS_app n l m (i + 1)
    simp only [List.cons_append, itS, List.length_cons]
    rw [this, show i + 1 + l.length = i + (l.length + 1) by omega]
theorem itH_app : ∀ (l m : Pgs) (n : Nat), itH n (l ++ m) = itH n l ++ itH (n + l.length) m
  | [], m, n => rfl
  | L :: l, m, n => by
    have := itH_app l m (n + 1)
    simp only [List.cons_append, itH, List.length_cons]
    rw [this, List.append_assoc, show n + 1 + l.length = n + (l.length + 1) by omega]
theorem itH_take {Ls : Pgs} {k : Nat} (hk : k < Ls.length) : itH 0 (Ls.take (k + 1)) = itH 0 (Ls.take k) ++ itS k 0 Ls[k] := by
  rw [List.take_succ_eq_append_getElem hk, itH_app, itS_itL, List.length_take, Nat.min_eq_left (Nat.le_of_lt hk), Nat.zero_add]
  simp [itH]
theorem itS_take {n j : Nat} {L : List Sl} (hj : j < L.length) : itS n 0 (L.take (j + 1)) = itS n 0 (L.take j) ++ itS n j [L[j]] := by
  rw [List.take_succ_eq_append_getElem hj, itS_app, List.length_take, Nat.min_eq_left (Nat.le_of_lt hj), Nat.zero_add]
theorem itS_len (n : Nat) : ∀ (l : List Sl) (i : Nat), (itS n i l).length ≤ l.length
  | [], i => Nat.le_refl _
  | none :: l, i => by have := itS_len n l (i + 1); simp only [itS, List.length_cons]; omega
  | some d :: l, i => by have := itS_len n l (i + 1); simp only [itS, List.length_cons]; omega
end Go.Proofs.Ytfkkajibaeppbaa.D
namespace Go.Proofs.Ytfkkajibaeppbaa.D
set_option linter.unusedVariables false
set_option linter.unusedSimpArgs false
open Go Go.Proofs.Ytfkkajibaeppbaa.D.Pm
set_option maxRecDepth 4000
theorem rall_does {st : Sto} {hid : Nat} {Ls : Pgs} {x : AC} (hH : RAt st hid Ls x) (hO : OkH Ls) : Does Try.prog 34 [.c (.ptr hid 0)] st fun r s => r = .c (.sl 3 ((itH 0 Ls).map itC)) ∧ s = st := by
  have h64 := hO.2
  refine Does.of TP Try.func34 rfl rfl (Nat.le_of_ble_eq_true rfl) (Pw.of TP [] ?_)
  conv => whnf
  have hrow : ∀ T : List It, ∀ r ∈ T.map itC, r.length = 3 := fun T r hr => by obtain ⟨n, _, rfl⟩ := List.mem_map.1 hr; rfl
  have hli := hH.li
  cases hli with
  | nil h0 =>
    refine Pw.rng (τ := Unit) 4 0 (by decide) [0, 3] (fun _ => []) (fun k _ => True) () rfl trivial trivial fun k _ hk hf => Pw.of TP [] ?_
    conv => whnf
    refine ⟨_, hH.bx, ?_⟩
    conv => whnf
    refine ⟨fun hk1 => ?_, fun hk1 => ?_⟩ <;> conv => whnf
    · exfalso
      omega
    · refine Fin.grow (sz := 3) (rows := (itH 0 Ls).map itC) ?_ (hrow _) ⟨rfl, rfl⟩
      have hLs : Ls = [] := by
        cases Ls with
        | nil => rfl
        | cons a l => cases h0
      rw [hLs]
      exact .nil (.refl _)
  | arr pid more n h1 h2 =>
    have hn : n = Ls.length := by rw [h1, ro_length]
    refine Pw.rngS (τ := AC × Sto) 4 n (by unfold Big; omega) [0] (fun _ y => [(3, .c y.1)]) (fun _ y => y.2) (fun i y => Grow st 3 y.2 y.1 ((itH 0 (Ls.take i)).map itC)) (_, st) rfl ⟨rfl, trivial⟩ (.refl _) (.nil (.refl _)) ?_
    rintro k ⟨a, s⟩ hk hg
    dsimp only at hg ⊢
    refine Pw.of TP [] ?_
    conv => whnf
    have hHs := hH.le hg.le
    refine ⟨_, hHs.bx, ?_⟩
    conv => whnf
    refine ⟨fun hk1 => ?_, fun hk1 => ?_⟩ <;> conv => whnf
    · have hk1 : k < n := by omega
      have hkl : k < Ls.length := by omega
      have hOk := hO.1 _ (List.getElem_mem hkl)
      have hLl := hOk.len
      have htk := itH_take hkl
      have hll : ((Ls[k].map eSl).length : Int) = (Ls[k].length : Nat) := by rw [List.length_map]
      have hbound : (itH 0 (Ls.take k)).length ≤ 16320 := by
        have h1 := itH_le (Ls := Ls.take k) (n := 0) (fun L hL => hO.1 L (List.mem_of_mem_take hL))
        rw [List.length_take] at h1
        omega
      refine Pw.rngS (τ := AC × Sto) 5 Ls[k].length (by unfold Big; omega) [0, 4] (fun _ y => [(3, .c y.1)]) (fun _ y => y.2) (fun j y => Grow st 3 y.2 y.1 ((itH 0 (Ls.take k) ++ itS k 0 (Ls[k].take j)).map itC)) (a, s) rfl ⟨rfl, trivial⟩ (.refl _) (by simpa [itS] using hg) ?_
      clear hg hHs
      rintro j ⟨a, s⟩ hj hg
      dsimp only at hg ⊢
      refine Pw.of TP [] ?_
      conv => whnf
      have hHs := hH.le hg.le
      have h2s := hg.le _ _ h2
      refine ⟨_, hHs.bx, ?_⟩
      conv => whnf
      refine ⟨by omega, by omega, ⟨_, h2s⟩, ?_⟩
      conv => whnf
      refine ⟨1, _, [eSls Ls[k]], h2s, ro_at hkl (by omega), ?_⟩
      conv => whnf
      refine ⟨fun hj1 => ?_, fun hj1 => ?_⟩ <;> conv => whnf
      · have hj1 : j < Ls[k].length := by omega
        have hts := itS_take (n := k) hj1
        refine ⟨_, hHs.bx, ?_⟩
        conv => whnf
        refine ⟨by omega, by omega, ⟨_, h2s⟩, ?_⟩
        conv => whnf
        refine ⟨1, _, [eSls Ls[k]], h2s, ro_at hkl (by omega), ?_⟩
        conv => whnf
        have key : ∀ F : List AC → Prop, F (eSl Ls[k][j]) → 0 ≤ (j : Int) ∧ (j : Int) < ((Ls[k].map eSl).length : Nat) ∧ ∃ r, (Ls[k].map eSl)[(j : Int).toNat]? = some r ∧ F r := fun F hF => ixm hj1 hF
        have hbl2 : (itS k 0 (Ls[k].take j)).length ≤ 255 := by
          have h1 := itS_len k (Ls[k].take j) 0
          rw [List.length_take] at h1
          omega
        generalize Ls[k][j] = t at key hts
        refine key _ ?_
        cases t with
        | none =>
          conv => whnf
          exact ⟨hj1, rfl, ⟨rfl, rfl, trivial⟩, (a, s), ⟨rfl, trivial⟩, .refl _, by rw [hts]; simpa [itS] using hg⟩
        | some d =>
          conv => whnf
          refine ⟨_, hHs.bx, ?_⟩
          conv => whnf
          refine ⟨by omega, by omega, ⟨_, h2s⟩, ?_⟩
          conv => whnf
          refine ⟨1, _, [eSls Ls[k]], h2s, ro_at hkl (by omega), ?_⟩
          conv => whnf
          refine key _ ?_
          conv => whnf
          refine hg.app (by simp; unfold maxLen; omega) (by simp; omega) fun a' s' hg' hk' => ?_
          conv => whnf
          exact ⟨hj1, rfl, ⟨rfl, rfl, trivial⟩, (a', s'), ⟨rfl, trivial⟩, .refl _, by rw [hts, ← List.append_assoc, List.map_append]; exact hg'⟩
      · have hjl : j = Ls[k].length := by omega
        subst hjl
        rw [List.take_length, ← htk] at hg
        exact ⟨hk1, rfl, ⟨rfl, trivial⟩, (a, s), ⟨rfl, trivial⟩, .refl _, hg⟩
    · have hkn : k = Ls.length := by omega
      subst hkn
      rw [List.take_length] at hg
      exact Fin.grow hg (hrow _) ⟨rfl, rfl⟩
end Go.Proofs.Ytfkkajibaeppbaa.D
