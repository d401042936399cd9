/- Words and contracts: a plain machine over the model, and what the functions that a law reaches come to, each for every input that its theorem names. -/
import Derived.Test.YtgbdhakkgnmeoaaK2
import Derived.Test.YtgbdhakkgnmeoaaK1
import Derived.Test.YtgbdhakkgnmeoaaV3
namespace Go.Proofs.Ytgbdhakkgnmeoaa.D
set_option linter.unusedVariables false
set_option linter.unusedSimpArgs false
open Go Go.Proofs.Ytgbdhakkgnmeoaa.D.Pm
set_option maxRecDepth 4000
def colX (n : ByteArray) : Ex := .mk 2 0 ⟨0, 0, ⟨#[]⟩⟩ n []
theorem col10_is (n : ByteArray) : Is Try.prog 16 [vS n] (.g (eE (colX n))) := by
  refine Is.of TP Try.func16 rfl rfl (Nat.le_of_ble_eq_true rfl) fun st => Pw.of TP [] ?_
  conv => whnf
  intro id1 h1
  conv => whnf
  refine ⟨_, upd_same _ _ _, Nat.le_of_ble_eq_true rfl, ?_⟩
  conv => whnf
  refine ⟨_, upd_same _ _ _, ?_⟩
  conv => whnf
  refine ⟨fun _ => false, st, .g (eE (colX n)), .gl (.cons (.refl _) (.cons (.refl _) (.cons (.refl _) (.cons (.refl _) (.cons (.refl _) (.cons (.refl _) (.cons (.nil 7) .nil))))))), fun id o ho => ⟨((Le.refl st).up h1).up2 h1 _ _ ho, rfl⟩, rfl, rfl⟩
def binX (op : Int) (a b : Ex) : Ex := .mk 5 op ⟨0, 0, ⟨#[]⟩⟩ ⟨#[]⟩ [a, b]
def wX : Ex := binX 2 (binX 1 (colX ⟨#[97]⟩) (colX ⟨#[98]⟩)) (colX ⟨#[99]⟩)
theorem wX_ok : okE wX := by
  unfold wX binX colX
  simp only [okE, okEs]
  decide
theorem wX_check : checkE true wX = 0 := by kernel_rfl
theorem wX_nl : allE nlE wX = true := by kernel_rfl
theorem wX_text : textE (fun _ => ⟨#[]⟩) wX = ⟨#[40, 97, 32, 79, 82, 32, 98, 41, 32, 65, 78, 68, 32, 99]⟩ := by kernel_rfl
theorem works10_is : Is Try.prog 6 [] (vB true) := by
  have hp : Is Try.prog 15 [.g (eE wX)] (.t [vS ⟨#[40, 97, 32, 79, 82, 32, 98, 41, 32, 65, 78, 68, 32, 99]⟩, vI .i64 0]) :=
    (print_is (fun _ => ⟨#[]⟩) wX wX_ok wX_check wX_nl (by rw [wX_text]; decide) (by rw [wX_text]; decide)).eq (by rw [wX_text])
  refine Is.of TP Try.func6 rfl rfl (Nat.le_of_ble_eq_true rfl) fun st => Pw.of TP [] ?_
  conv => whnf
  refine (col10_is _).call ?_
  conv => whnf
  refine (col10_is _).call ?_
  conv => whnf
  refine (col10_is _).call ?_
  conv => whnf
  refine hp.call ?_
  conv => whnf
  refine ⟨fun _ => ?_, fun h => absurd rfl h⟩
  conv => whnf
  refine ⟨fun _ => ?_, fun h => absurd rfl h⟩
  conv => whnf
  exact Fin.old rfl (.refl _)
theorem height_is : ∀ e, okE e → nodes e ≤ Lim → Is Try.prog 9 [.g (eE e)] (vI .i64 (height e : Nat)) := by
  refine Ex.ind fun k op v n kids ih ok hn => ?_
  rw [nodes] at hn
  have hh := heights_nodes kids
  unfold Lim at hn
  refine Is.of TP Try.func9 rfl rfl (Nat.le_of_ble_eq_true rfl) fun st => Pw.of TP [] ?_
  conv => whnf
  refine Pw.rng (τ := Nat) 9 kids.length ok.2.2.1 [1, 7, 8] (fun m => [(3, vI .i64 m)]) (fun i m => m = heights (kids.take i)) 0 rfl ⟨rfl, trivial⟩ rfl fun i m hi hx => Pw.of TP [] ?_
  conv => whnf
  refine ⟨fun h => ?_, fun h => ?_⟩ <;> conv => whnf
  · have hi' := ltE ‹_›
    refine ixE hi' ?_
    have hm := ih kids[i] (List.getElem_mem hi') (okEs_all ok.2.2.2 _ (List.getElem_mem hi')) (Nat.le_trans (nodes_mem (List.getElem_mem hi')) (by unfold Lim; omega))
    have hs := heights_take hi'
    generalize kids[i] = e at hm hs ⊢
    generalize height e = he at hm hs
    cases e
    conv => whnf
    refine hm.call ?_
    conv => whnf
    refine ⟨hi', rfl, ⟨rfl, rfl, rfl, trivial⟩, max m he, ⟨?_, trivial⟩, .refl _, by rw [hs, ← hx]⟩
    conv => lhs; whnf
    refine congrArg (fun z => some (vI .i64 z)) ?_
    split <;> omega
  · obtain rfl := nltE ‹_› hi
    rw [List.take_length] at hx
    refine Fin.old (congrArg (vI .i64) ?_) (.refl _)
    rw [wrap_id (by omega) (by omega), height, hx]; rfl
theorem exprChecks_law (e : Ex) (slots : Bool) (_ : wfE e) (_ : True) : Is Try.prog 3 [.g (eE e), vB slots] (vB true) := by
  have h0 := few_is e 60 (by decide)
  have h1 := fun ok => check_is e ok slots
  have h2 := fun ok hn => rcheck_is e ok hn slots
  have h3 := fun ok hn => height_is e ok hn
  have h4 := fun ok hn => rheight_is e ok hn
  have ho : fewE 60 e = true → okE e ∧ nodes e ≤ Lim := fun h => by
    unfold fewE at h
    cases hc : cnt e 60 with
    | none => rw [hc] at h; cases h
    | some m =>
      obtain ⟨g1, g2, g3⟩ := cnt_ok e 60 m hc
      exact ⟨g1, by unfold Lim; omega⟩
  cases e
  refine Is.of TP Try.func3 rfl rfl (Nat.le_of_ble_eq_true rfl) fun st => Pw.of TP [] ?_
  conv => whnf
  refine Is.callB h0 fun q hq => ?_
  cases q <;> conv => whnf
  · refine works10_is.call ?_
    conv => whnf
    exact Fin.old rfl (.refl _)
  obtain ⟨ok, hn⟩ := ho hq
  refine Pw.drw TP mixed (by kernel_rfl) ?_; conv => whnf
  refine Is.draw (h1 ok) ?_
  conv => whnf
  refine Is.draw (h2 ok hn) ?_
  conv => whnf
  refine ⟨fun _ => ?_, fun h => absurd rfl h⟩
  conv => whnf
  refine Is.draw (h3 ok hn) ?_
  conv => whnf
  refine Is.draw (h4 ok hn) ?_
  conv => whnf
  refine ⟨fun _ => ?_, fun h => absurd rfl h⟩
  conv => whnf
  refine Is.draw works10_is ?_
  conv => whnf
  exact Fin.old rfl (.refl _)
end Go.Proofs.Ytgbdhakkgnmeoaa.D
namespace Go.Proofs.Ytgbdhakkgnmeoaa.D
set_option linter.unusedVariables false
set_option linter.unusedSimpArgs false
open Go Go.Proofs.Ytgbdhakkgnmeoaa.D.Pm
set_option maxRecDepth 4000
theorem okR7 {L : Tab} {r : List AC} (h : okR RT0 L 7 r) : ∃ n m a b c d k, r = [.v (.int .i64 n), .v (.int .i64 m), a, b, c, d, k] ∧ okc L (.L 7) k ∧ F2 (okc L) [.I, .I, .S, .S] [a, b, c, d] := by
  cases h with | cons h1 h => cases h with | cons h2 h => cases h with | cons h3 h => cases h with | cons h4 h => cases h with | cons h5 h => cases h with | cons h6 h => cases h with | cons h7 h =>
    cases h
    obtain ⟨n, rfl⟩ := h1
    obtain ⟨m, rfl⟩ := h2
    exact ⟨n, m, _, _, _, _, _, rfl, h7, .cons h3 (.cons h4 (.cons h5 (.cons h6 .nil)))⟩
theorem okR7_of {L : Tab} {n m : Int} {a b c d k : AC} (hk : okc L (.L 7) k) (h : F2 (okc L) [.I, .I, .S, .S] [a, b, c, d]) : okR RT0 L 7 [.v (.int .i64 n), .v (.int .i64 m), a, b, c, d, k] := by
  cases h with | cons h3 h => cases h with | cons h4 h => cases h with | cons h5 h => cases h with | cons h6 h =>
    exact .cons ⟨_, rfl⟩ (.cons ⟨_, rfl⟩ (.cons h3 (.cons h4 (.cons h5 (.cons h6 (.cons hk .nil))))))
theorem eqLr {α : Type} {f : α → α → Bool} : ∀ {l : List α}, (∀ a ∈ l, f a a = true) → eqL f l l = true
  | [], _ => rfl
  | a :: l, h => by rw [eqL, h a (List.mem_cons_self ..), eqLr fun x hx => h x (List.mem_cons_of_mem _ hx)]; rfl
theorem eqEr : ∀ e : Ex, eqE e e = true := by
  refine Ex.ind fun k op v n kids ih => ?_
  rw [eqE, eqEs_eq, eqLr ih]; simp
theorem setAt {α : Type} {l : List α} {i : Nat} {a b : α} (h : l[i]? = some a) : (l.set i b)[i]? = some b := by
  rw [List.getElem?_set_self (List.getElem?_eq_some_iff.1 h).1]
/-- a row of a list still has its list of kids -/
def KK (y : Sto) (id i : Nat) (k : AC) : Prop := ∃ rows a0 a1 a2 a3 a4 a5, y id = some (.ar 7 rows) ∧ (∀ q ∈ rows, q.length = 7) ∧ rows[0 + i]? = some [a0, a1, a2, a3, a4, a5, k]
theorem kk_set {y : Sto} {id i : Nat} {k : AC} (h : KK y id i k) {id2 j : Nat} {rows2 : List (List AC)} {b0 b1 b2 b3 b4 b5 b6 b1' : AC} (h2 : y id2 = some (.ar 7 rows2)) (hr : rows2[j]? = some [b0, b1, b2, b3, b4, b5, b6]) : KK (upd y id2 (.ar 7 (rows2.set j [b0, b1', b2, b3, b4, b5, b6]))) id i k := by
  obtain ⟨rows, a0, a1, a2, a3, a4, a5, h1, hl, hi⟩ := h
  by_cases e : id = id2
  · rw [← e] at h2 ⊢
    rw [h1] at h2
    cases h2
    have hl' : ∀ q ∈ rows2.set j [b0, b1', b2, b3, b4, b5, b6], q.length = 7 := fun q hq => by
      rcases List.mem_or_eq_of_mem_set hq with hq | hq
      · exact hl q hq
      · rw [hq]; rfl
    by_cases hj : j = 0 + i
    · rw [hj] at hr hl' ⊢
      rw [hi] at hr
      cases hr
      exact ⟨_, _, _, _, _, _, _, upd_same _ _ _, hl', by rw [List.getElem?_set_self (List.getElem?_eq_some_iff.1 hi).1]⟩
    · exact ⟨_, _, _, _, _, _, _, upd_same _ _ _, hl', by rw [List.getElem?_set_ne hj]; exact hi⟩
  · exact ⟨rows, a0, a1, a2, a3, a4, a5, (upd_ne _ e).trans h1, hl, hi⟩
set_option maxHeartbeats 4000000 in
theorem exprSame_law (a b : Ex) (_ : wfE a) (_ : wfE b) : Is Try.prog 4 [.g (eE a), .g (eE b)] (vB true) := by
  have ha := few_is a 60 (by decide)
  have hb := few_is b 60 (by decide)
  have ho : fewE 60 a = true → okE a ∧ nodes a ≤ Lim := fun h => by
    unfold fewE at h
    cases hc : cnt a 60 with
    | none => rw [hc] at h; cases h
    | some m =>
      obtain ⟨g1, g2, g3⟩ := cnt_ok a 60 m hc
      exact ⟨g1, by unfold Lim; omega⟩
  have cl := fun ok hn => clone_does a ok hn
  have s1 : okE a → Is Try.prog 12 [.g (eE a), .g (eE b)] (vB (eqE a b)) := fun ok => same_is a ok b
  have s2 : okE a → Is Try.prog 13 [.g (eE a), .g (eE b)] (vB (eqE a b)) := fun ok => rsame_is a ok b
  have s3 : okE a → Is Try.prog 12 [.g (eE a), .g (eE a)] (vB true) := fun ok => (same_is a ok a).eq (by rw [eqEr])
  have s4 : okE a → Is Try.prog 13 [.g (eE a), .g (eE a)] (vB true) := fun ok => (rsame_is a ok a).eq (by rw [eqEr])
  generalize eqE a b = eab at s1 s2
  obtain ⟨k, op, v, nm, kids⟩ := a
  obtain ⟨k', op', v', nm', kids'⟩ := b
  refine Is.of TP Try.func4 rfl rfl (Nat.le_of_ble_eq_true rfl) fun st => Pw.of TP [3] ?_
  conv => whnf
  refine Is.callB ha fun q hq => ?_
  cases q <;> conv => whnf
  · refine works10_is.call ?_
    conv => whnf
    exact Fin.old rfl (.refl _)
  refine Is.callB hb fun q hq2 => ?_
  cases q <;> conv => whnf
  · refine works10_is.call ?_
    conv => whnf
    exact Fin.old rfl (.refl _)
  obtain ⟨oka, hn⟩ := ho hq
  have s1 := s1 oka
  have s2 := s2 oka
  have s3 := s3 oka
  have s4 := s4 oka
  have cl := cl oka hn
  clear ho hb ha hn hq hq2
  refine Pw.of TP [5] ?_
  conv => whnf
  refine Does.mono (cl _) fun r st1 hc => ?_
  obtain ⟨Lc, xc, rfl, oc⟩ := hc
  have hx : xc.length = 7 := oc.fz.len
  obtain ⟨x1, x2, x3, x4, x5, x6, x7, rfl⟩ : ∃ a b c d e f g, xc = [a, b, c, d, e, f, g] := by
    match xc, hx with
    | [a, b, c, d, e, f, g], _ => exact ⟨a, b, c, d, e, f, g, rfl⟩
  conv => whnf
  refine Does.lendOwn (as' := [.g (eE (.mk k op v nm kids))]) (ts := RT0 7) (ys := eE (.mk k op v nm kids)) (R := RT0) rfl (fun j r r' h1 h2 => ?_) (cl _) fun Ld xd st2 od => ?_
  · match j, h1, h2 with
    | 0, h1, h2 => cases h1; cases h2; exact .gl (F2.imp (fun _ _ hf => hf.mono (fun _ _ => rfl) fun _ _ _ h => h) oc.fz)
    | j + 1, h1, h2 => simp at h2
  have hx : xd.length = 7 := od.fz.len
  obtain ⟨z1, z2, z3, z4, z5, z6, z7, rfl⟩ : ∃ a b c d e f g, xd = [a, b, c, d, e, f, g] := by
    match xd, hx with
    | [a, b, c, d, e, f, g], _ => exact ⟨a, b, c, d, e, f, g, rfl⟩
  conv => whnf
  have fc : ∀ y, Le st2 y → ∀ (j : Nat) (r r' : AV), [AV.g [x1, x2, x3, x4, x5, x6, x7], AV.g (eE (.mk k op v nm kids))][j]? = some r → [AV.g (eE (.mk k op v nm kids)), AV.g (eE (.mk k op v nm kids))][j]? = some r' → FV (fun _ => true) y r r' := fun y hy j r r' h1 h2 => by
    match j, h1, h2 with
    | 0, h1, h2 => cases h1; cases h2; exact .gl (F2.imp (fun _ _ hf => hf.mono (fun _ _ => rfl) fun i o _ h => hy i o (od.le i o h)) oc.fz)
    | 1, h1, h2 => cases h1; cases h2; exact .refl _
    | j + 2, h1, h2 => simp at h2
  refine Pw.cut (τ := Unit) [2, 5, 6] (fun _ => []) (fun _ => st2) (fun _ => True) (Pw.of TP [] ?_) fun _ _ => ?_
  · refine Pw.drw TP mixed (by kernel_rfl) ?_; conv => whnf
    refine Is.drawB s1 fun q hq => ?_
    conv => whnf
    refine Is.drawB s2 fun q' hq' => ?_
    have e : q' = q := by rw [← hq, ← hq']
    subst e
    cases q' <;> conv => whnf
    all_goals refine ⟨vB true, fun st' hle => Is.lend s4 rfl (fc st' hle) ⟨rfl, rfl⟩, ?_⟩
    all_goals conv => whnf
    all_goals refine ⟨vB true, fun st' hle => Is.lend s3 rfl (fc st' hle) ⟨rfl, rfl⟩, ?_⟩
    all_goals conv => whnf
    all_goals exact ⟨⟨rfl, rfl, rfl, trivial⟩, (), trivial, .refl _, trivial⟩
  have o7 : okc Lc (.L 7) x7 := by
    have h := oc.ok
    cases h with | cons _ h => cases h with | cons _ h => cases h with | cons _ h => cases h with | cons _ h => cases h with | cons _ h => cases h with | cons _ h => cases h with | cons h7 h => exact h7
  have I0 : LInv RT0 Lc st2 st2 := ⟨oc.ty.le od.le, fun _ _ => rfl⟩
  have fd : ∀ y, LInv RT0 Lc st2 y → ∀ (j : Nat) (r r' : AV), [AV.g [z1, z2, z3, z4, z5, z6, z7], AV.g (eE (.mk k op v nm kids))][j]? = some r → [AV.g (eE (.mk k op v nm kids)), AV.g (eE (.mk k op v nm kids))][j]? = some r' → FV (fun _ => true) y r r' := fun y hy j r r' h1 h2 => by
    match j, h1, h2 with
    | 0, h1, h2 =>
      cases h1; cases h2
      refine .gl (F2.imp (fun _ _ hf => hf.mono (fun _ _ => rfl) fun i o hd h => ?_) od.fz)
      rw [hy.old i ?_]; exact h
      unfold Tab.dom at hd
      cases hl : Ld i with
      | none => rw [hl] at hd; cases hd
      | some p =>
        cases hc : Lc i with
        | none => rfl
        | some p' => obtain ⟨ob, hob⟩ := oc.ty.some hc; rw [od.new i p hl] at hob; cases hob
    | 1, h1, h2 => cases h1; cases h2; exact .refl _
    | j + 2, h1, h2 => simp at h2
  have hfz := oc.fz
  clear fc cl s1 s2 s3
  refine Pw.cut (τ := Sto) [2, 5, 6] (fun _ => []) (fun y => y) (fun y => LInv RT0 Lc st2 y) (Pw.of TP [] ?_) fun y I0 => Pw.of TP [] ?_
  · rcases o7 with rfl | ⟨id, n, rfl, hL⟩
    · conv => whnf
      refine Pw.rngS (τ := Unit) 7 0 (Nat.zero_le _) [2, 5, 6] (fun _ _ => []) (fun _ _ => st2) (fun _ _ => True) () rfl ⟨⟩ (.refl _) trivial fun i _ hi _ => Pw.of TP [] ?_
      conv => whnf
      refine ⟨fun h => absurd h (show ¬ (i : Int) < ((0 : Nat) : Int) by omega), fun _ => ?_⟩
      conv => whnf
      exact ⟨⟨rfl, rfl, rfl, trivial⟩, st2, trivial, .refl _, I0⟩
    · have hn : n ≤ Big := by
        cases hfz with | cons _ h => cases h with | cons _ h => cases h with | cons _ h => cases h with | cons _ h => cases h with | cons _ h => cases h with | cons _ h => cases h with | cons h _ =>
          cases h with | arr _ _ _ _ rows ys hd hs hl hy hr h =>
            rw [eEs_len] at hy
            rw [← hy]; exact oka.2.2.1
      conv => whnf
      refine Pw.rngS (τ := Sto) 7 n hn [2, 5, 6] (fun _ _ => []) (fun _ y => y) (fun i y => LInv RT0 Lc st2 y) st2 rfl ⟨⟩ (.refl _) I0 fun i y hi hI => Pw.of TP [11] ?_
      conv => whnf
      refine ⟨fun h => ?_, fun h => ?_⟩ <;> conv => whnf
      rotate_left
      · exact ⟨⟨rfl, rfl, rfl, trivial⟩, y, trivial, .refl _, hI⟩
      have hi' : i < n := by omega
      obtain ⟨rows, g1, g2, g3, g4⟩ := hI.row hL
      obtain ⟨r, r1, r2, r3⟩ := g4 i hi'
      obtain ⟨n0, m0, c1, c2, c3, c4, cK, rfl, qK, qr⟩ := okR7 r3
      have r1' : rows[0 + ((i : Nat) : Int).toNat]? = some [.v (.int .i64 n0), .v (.int .i64 m0), c1, c2, c3, c4, cK] := by rw [Nat.zero_add, Int.toNat_natCast]; exact r1
      refine ⟨by omega, by omega, ⟨_, g1⟩, ?_⟩
      conv => whnf
      refine ⟨_, _, _, g1, r1', ?_⟩
      conv => whnf
      refine ⟨by omega, by omega, ⟨_, g1⟩, ?_⟩
      conv => whnf
      refine ⟨_, _, _, g1, r1', Nat.le_of_ble_eq_true rfl, ?_⟩
      conv => whnf
      refine Pw.gen fun y1 e1 => ?_
      have I1 : LInv RT0 Lc st2 y1 := by rw [e1]; exact hI.set hL g1 ⟨rfl, okR7_of qK qr⟩
      have K1 : KK y1 id i cK := by
        refine ⟨_, _, _, _, _, _, _, by rw [e1]; exact upd_same _ _ _, fun q hq => ?_, setAt r1'⟩
        rcases List.mem_or_eq_of_mem_set hq with hq | hq
        · exact g3 q hq
        · rw [hq]; rfl
      clear e1 r1 r1' g1 g2 g3 g4 hI
      -- the kids of a kid
      rcases qK with rfl | ⟨id2, n2, rfl, hL2⟩
      · obtain ⟨rows1, a0, a1, a2, a3, a4, a5, g1, g3, w1⟩ := K1
        refine Pw.of TP [] ?_
        conv => whnf
        refine Pw.rngS (τ := Unit) 8 0 (Nat.zero_le _) [2, 5, 6, 7] (fun _ _ => []) (fun _ _ => y1) (fun _ _ => True) () rfl ⟨⟩ (.refl _) trivial fun j _ hj _ => Pw.of TP [] ?_
        conv => whnf
        refine ⟨by omega, by omega, ⟨_, g1⟩, ?_⟩
        conv => whnf
        refine ⟨_, _, _, g1, w1, ?_⟩
        conv => whnf
        refine ⟨fun h => absurd h (show ¬ (j : Int) < ((0 : Nat) : Int) by omega), fun _ => ?_⟩
        conv => whnf
        exact ⟨hi', rfl, ⟨rfl, rfl, rfl, trivial⟩, y1, trivial, .refl _, I1⟩
      · obtain ⟨rows1, a0, a1, a2, a3, a4, a5, g1, g3, w1⟩ := K1
        refine Pw.lenRow g1 g3 w1 (j := 6) rfl fun hm2 => Pw.of TP [] ?_
        have K1 : KK y1 id i (.arr id2 0 n2) := ⟨rows1, a0, a1, a2, a3, a4, a5, g1, g3, w1⟩
        clear g1 g3 w1
        conv => whnf
        refine Pw.rngL (τ := Sto) 8 n2 hm2 [2, 5, 6, 7] (fun _ _ => []) (fun _ y => y) (fun _ y => LInv RT0 Lc st2 y ∧ KK y id i (.arr id2 0 n2)) y1 rfl ⟨⟩ (.refl _) ⟨I1, K1⟩ fun j y hj ⟨hI, K1⟩ => Pw.of TP [] ?_
        obtain ⟨rows1, a0, a1, a2, a3, a4, a5, g1, g3, w1⟩ := (show KK y id i (.arr id2 0 n2) from K1)
        conv => whnf
        refine ⟨by omega, by omega, ⟨_, g1⟩, ?_⟩
        conv => whnf
        refine ⟨_, _, _, g1, w1, ?_⟩
        conv => whnf
        refine ⟨fun h => ?_, fun h => ?_⟩ <;> conv => whnf
        · obtain ⟨rows2, v1, v2, v3, v4⟩ := hI.row hL2
          obtain ⟨r, r1, r2, r3⟩ := v4 j (by omega)
          obtain ⟨n0, m0, c1, c2, c3, c4, cK, rfl, qK, qr⟩ := okR7 r3
          have r1' : rows2[0 + ((j : Nat) : Int).toNat]? = some [.v (.int .i64 n0), .v (.int .i64 m0), c1, c2, c3, c4, cK] := by rw [Nat.zero_add, Int.toNat_natCast]; exact r1
          refine ⟨by omega, by omega, ⟨_, g1⟩, ?_⟩
          conv => whnf
          refine ⟨_, _, _, g1, w1, ?_⟩
          conv => whnf
          refine ⟨by omega, by omega, ⟨_, v1⟩, ?_⟩
          conv => whnf
          refine ⟨_, _, _, v1, r1', ?_⟩
          conv => whnf
          refine ⟨by omega, by omega, ⟨_, v1⟩, ?_⟩
          conv => whnf
          refine ⟨_, _, _, v1, r1', Nat.le_of_ble_eq_true rfl, ?_⟩
          conv => whnf
          exact ⟨by omega, rfl, ⟨rfl, rfl, rfl, rfl, trivial⟩, _, trivial, .refl _, hI.set hL2 v1 ⟨rfl, okR7_of qK qr⟩, kk_set K1 v1 r1'⟩
        · exact ⟨hi', rfl, ⟨rfl, rfl, rfl, trivial⟩, y, trivial, .refl _, hI⟩
  conv => whnf
  refine Is.lend s4 rfl (fd y I0) ?_
  conv => whnf
  refine works10_is.call ?_
  conv => whnf
  refine Fin.same rfl (st0 := st) (fun i o h => ?_) ⟨rfl, rfl⟩
  have hn : Lc i = none := by
    cases hc : Lc i with
    | none => rfl
    | some p => rw [oc.new i p hc] at h; cases h
  rw [I0.old i hn]
  exact od.le i o (oc.le i o h)
end Go.Proofs.Ytgbdhakkgnmeoaa.D
