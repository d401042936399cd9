/- Words and contracts: a plain machine over the model, and what the functions that a law reaches come to, each for every input that its theorem names. -/
import Derived.Test.YtfkkajibaeppbaaK7
namespace Go.Proofs.Ytfkkajibaeppbaa.D
set_option linter.unusedVariables false
set_option linter.unusedSimpArgs false
open Go Go.Proofs.Ytfkkajibaeppbaa.D.Pm
set_option maxRecDepth 4000
theorem setH_ok {Ls : Pgs} (hO : OkH Ls) (p s : Int) (d : By) : OkH (setH Ls p s d).1 := by
  unfold setH
  cases hp : pgH Ls p with
  | none => exact hO
  | some L =>
    obtain ⟨k, rfl, hk, rfl⟩ := pgH_some hp
    have hOk := hO.1 _ (List.getElem_mem hk)
    dsimp only
    split
    · rename_i h0
      exact hO.set (setS_ok hOk s d h0) _
    · split
      · rename_i h5
        have h6 := dropS_ok hOk s (setS_full h5)
        unfold moveH
        split
        · exact (putH_ok (hO.set h6 _) d).tr
        · exact hO
      · exact hO
theorem dropH_ok {Ls : Pgs} (hO : OkH Ls) (p s : Int) : OkH (dropH Ls p s).1 := by
  unfold dropH
  cases hp : pgH Ls p with
  | none => exact hO
  | some L =>
    obtain ⟨k, rfl, hk, rfl⟩ := pgH_some hp
    have hOk := hO.1 _ (List.getElem_mem hk)
    dsimp only
    split
    · rename_i h0
      exact (hO.set (dropS_ok hOk s h0) _).tr
    · exact hO
theorem doneH_ok {Ls : Pgs} (hO : OkH Ls) (op : Int) (at_ : Int × Int) (d : By) : OkH (doneH Ls op at_ d) := by
  unfold doneH
  split
  · exact putH_ok hO d
  split
  · exact setH_ok hO _ _ d
  split
  · exact dropH_ok hO _ _
  · exact hO
def Fr (st : Sto) (s : Sto) (hid rid_ : Nat) (x y : AC) : Prop := Le st s ∧ ∀ i o, st i = some o → ¬ ow2 hid rid_ x y i
theorem Fr.next {st s s' : Sto} {hid rid_ : Nat} {x y x' y' : AC} (h : Fr st s hid rid_ x y) (c : Chg s s' (ow2 hid rid_ x y) (ow2 hid rid_ x' y')) : Fr st s' hid rid_ x' y' := Chg.le h.1 c h.2
theorem heapPlays_law0 (l : List HAct) (hl : l.length ≤ maxLen) : Is Try.prog 7 [.c (.sl 5 (l.map eHA))] (vB true) := by
  have hll : ((l.map eHA).length : Int) = (l.length : Nat) := by rw [List.length_map]
  refine Is.of TP Try.func7 rfl rfl (Nat.le_of_ble_eq_true rfl) fun st => Pw.of TP [1000008] ?_
  conv => whnf
  refine (hnew_does st).mono fun r s1 h => ?_
  obtain ⟨hid, rfl, h0, hH, hle⟩ := h
  conv => whnf
  intro rid_ hr
  conv => whnf
  have hne : rid_ ≠ hid := fun e => by subst e; rw [hH.bx] at hr; cases hr
  have hT0 : Two (upd s1 rid_ (.bx [.v (.slice none 0 0)])) hid rid_ [] (.v (.slice none 0 0)) (.v (.slice none 0 0)) := ⟨hH.upd (hH.new hr), ⟨upd_same _ _ _, .nil rfl⟩, fun i h1 h2 => by
    rcases h1 with h1 | ⟨l, h1⟩
    · rcases h2 with h2 | ⟨l, h2⟩
      · exact hne (h2.symm.trans h1)
      · cases h2
    · cases h1⟩
  have hF0 : Fr st (upd s1 rid_ (.bx [.v (.slice none 0 0)])) hid rid_ (.v (.slice none 0 0)) (.v (.slice none 0 0)) := ⟨hle.up hr, fun i o hi h => by
    rcases h with (h | ⟨l, h⟩) | (h | ⟨l, h⟩)
    · subst h; rw [h0] at hi; cases hi
    · cases h
    · subst h; rw [hle _ _ hi] at hr; cases hr
    · cases h⟩
  refine Pw.loop (σ := Nat × Pgs × AC × AC × Sto) (fun z => [(5, vI .i64 (z.1 : Int)), (3, .c (.ptr hid 0)), (4, .c (.ptr rid_ 0)), (0, .c (.sl 5 (l.map eHA)))]) (fun z => z.2.2.2.2) (fun z => OkH z.2.1 ∧ z.1 ≤ l.length ∧ z.1 ≤ 60 ∧ Two z.2.2.2.2 hid rid_ z.2.1 z.2.2.1 z.2.2.2.1 ∧ Fr st z.2.2.2.2 hid rid_ z.2.2.1 z.2.2.2.1) (fun z => 60 - z.1) ⟨(0, [], .v (.slice none 0 0), .v (.slice none 0 0), upd s1 rid_ (.bx [.v (.slice none 0 0)])), .mk ⟨rfl, rfl, rfl, rfl, trivial⟩ (.refl _), okH_nil, Nat.zero_le _, Nat.zero_le _, hT0, hF0⟩ ?_
  rintro ⟨i, Ls, x, y, s⟩ ⟨hO, hi1, hi2, t, hF⟩
  dsimp only at hO hi1 hi2 t hF ⊢
  refine Pw.of TP [] ?_
  conv => whnf
  have hw := hworks_is.call (st := s) (K := fun r s => Fin (fun r' s => r' = vB true ∧ s = st) r s) (Fin.old rfl hF.1)
  refine ⟨fun h => ?_, fun h => ?_⟩ <;> conv => whnf
  case' refine_1 =>
    refine ⟨fun h60 => ?_, fun h60 => ?_⟩ <;> conv => whnf
  case' refine_1.refine_1 =>
    have hi : i < l.length := by omega
    have h60x : i < 60 := by omega
    have key : ∀ F : List AC → Prop, F (eHA l[i]) → 0 ≤ (i : Int) ∧ (i : Int) < ((l.map eHA).length : Nat) ∧ ∃ r, (l.map eHA)[(i : Int).toNat]? = some r ∧ F r := fun F hF => ixm hi hF
    generalize l[i] = a at key
    refine key _ ?_
    conv => whnf
    refine (hlong_is a).callB fun b hb => ?_
    rcases b with _ | _
    rotate_left
    · conv => whnf
      refine hworks_is.call ?_
      conv => whnf
      exact Fin.old rfl hF.1
    conv => whnf
    have ha : a.data.length ≤ 400 := by have := of_decide_eq_false hb; omega
    refine key _ ?_
    conv => whnf
    refine (hdone_does t hO a ha).mono fun r s2 h => ?_
    obtain ⟨rfl, x2, y2, t2, c2⟩ := h
    have hO2 := doneH_ok hO a.op (atH Ls a) a.data
    generalize doneH Ls a.op (atH Ls a) a.data = M at t2 hO2
    have h3 := hlen_does t2.h hO2
    have h4 := rall_does t2.r hO2
    generalize itH 0 M = T at h3 h4
    have hTl : ((T.map itC).length : Int) = (T.length : Nat) := by rw [List.length_map]
    conv => whnf
    refine h3.go ?_
    conv => whnf
    refine h4.go ?_
    conv => whnf
    rw [hTl]
    refine ⟨fun h => absurd rfl h, fun _ => ?_⟩
    conv => whnf
    exact ⟨(i + 1, M, x2, y2, s2), .mk ⟨congrArg (fun x => some (vI .i64 x)) (wrap_nat (n := 60) (by omega) (by decide)), rfl, rfl, rfl, trivial⟩ (.refl _), ⟨hO2, hi, h60x, t2, hF.next c2⟩, by dsimp only; omega⟩
  all_goals
    refine (like_does t hO).go ?_
    conv => whnf
    refine hworks_is.call ?_
    conv => whnf
    exact Fin.old rfl hF.1
theorem heapPlays_law (l : List HAct) (h : wfHActs l) : Is Try.prog 7 [.c (.sl 5 (l.map eHA))] (vB true) := heapPlays_law0 l h.1
end Go.Proofs.Ytfkkajibaeppbaa.D
namespace Go.Proofs.Ytfkkajibaeppbaa.D
set_option linter.unusedVariables false
set_option linter.unusedSimpArgs false
open Go Go.Proofs.Ytfkkajibaeppbaa.D.Pm
set_option maxRecDepth 4000
theorem Fz.live {st : Sto} {id : Nat} {p : By} {n : Nat} (hs : LiveP st id p) (hn : n = p.length) : Fz (only id) st (.arr id 0 n) (.sl 1 (byl p)) := by
  have := Fz.arr0 (D := only id) (st := st) (by simp [only]) hs byl_row
  rw [byl_length] at this
  exact hn ▸ this
def z250 : By := List.replicate 250 0
theorem Two.upd {s : Sto} {hid rid_ id : Nat} {Ls : Pgs} {x y : AC} {o : Ob} (t : Two s hid rid_ Ls x y) (hn : s id = none) : Two (Pm.del (Pm.upd s id o) id) hid rid_ Ls x y := by
  have e : Pm.del (Pm.upd s id o) id = s := by
    funext i
    unfold Pm.del Pm.upd
    split
    · rename_i e; rw [e, hn]
    · rfl
  rw [e]
  exact t
theorem done_fresh {s : Sto} {hid rid_ id n : Nat} {Ls : Pgs} {x y : AC} (t : Two s hid rid_ Ls x y) (hO : OkH Ls) (hn : s id = none) (hl : n = z250.length) : Does Try.prog 29 [.c (.ptr hid 0), .c (.ptr rid_ 0), .g [.v (.int .i64 0), .v (.bool false), .v (.int .i64 0), .v (.int .i64 0), .arr id 0 n]] (upd s id (.ar 1 (byl z250))) fun r s' => r = vB true ∧ ∃ M x' y', OkH M ∧ Two s' hid rid_ M x' y' ∧ Chg s s' (ow2 hid rid_ x y) (ow2 hid rid_ x' y') := by
  have e : Pm.del (Pm.upd s id (.ar 1 (byl z250))) id = s := by
    funext i
    unfold Pm.del Pm.upd
    split
    · rename_i e; rw [e, hn]
    · rfl
  refine Does.argsD (as' := [.c (.ptr hid 0), .c (.ptr rid_ 0), .g (eHA ⟨0, false, 0, 0, z250⟩)]) (only id) (st' := s) (fun i o hi => ?_) rfl (fun j r r' h1 h2 => ?_) ((hdone_does t hO ⟨0, false, 0, 0, z250⟩ (by decide)).mono fun r s' h => ?_)
  · have hne : i ≠ id := fun e => by subst e; rw [hn] at hi; cases hi
    exact ⟨by rw [upd_ne _ hne]; exact hi, by simp [only, hne]⟩
  · match j, h1, h2 with
    | 0, h1, h2 => cases h1; cases h2; exact .refl _
    | 1, h1, h2 => cases h1; cases h2; exact .refl _
    | 2, h1, h2 =>
      cases h1; cases h2
      exact FV.gl (.cons (.refl _) (.cons (.refl _) (.cons (.refl _) (.cons (.refl _) (.cons (Fz.live (upd_same _ _ _) hl) .nil)))))
    | j + 3, h1, h2 => simp at h1
  · obtain ⟨rfl, x', y', t', c'⟩ := h
    exact ⟨rfl, _, x', y', doneH_ok hO _ _ _, t', c'⟩
theorem heapFills_law0 (m : Int) (h0m : 0 ≤ m) (h1m : m < 256) (a : HAct) : Is Try.prog 8 [.c (.v (.int .u8 m)), .g (eHA a)] (vB true) := by
  have e250 : List.replicate 250 [AC.v (.int .u8 0)] = byl z250 := by unfold z250; rw [byl_rep]
  obtain ⟨N, hN, hN2⟩ : ∃ N : Nat, 40 + m.tmod 100 = (N : Int) ∧ N ≤ 139 := by
    have b1 := Int.tmod_nonneg (100 : Int) h0m
    have b2 := Int.tmod_lt_of_pos m (b := 100) (by decide)
    exact ⟨(40 + m.tmod 100).toNat, by omega, by omega⟩
  refine Is.of TP Try.func8 rfl rfl (Nat.le_of_ble_eq_true rfl) fun st => Pw.of TP [1000013, 1000012] ?_
  conv => whnf
  refine (hlong_is a).callB fun b hb => ?_
  rcases b with _ | _
  rotate_left
  · conv => whnf
    refine hworks_is.call ?_
    conv => whnf
    exact Fin.old rfl (.refl _)
  have ha : a.data.length ≤ 400 := by have := of_decide_eq_false hb; omega
  conv => whnf
  refine (hnew_does st).mono fun r s1 h => ?_
  obtain ⟨hid, rfl, h0, hH, hle⟩ := h
  conv => whnf
  intro rid_ hr
  conv => whnf
  have hne : rid_ ≠ hid := fun e => by subst e; rw [hH.bx] at hr; cases hr
  have hT0 : Two (upd s1 rid_ (.bx [.v (.slice none 0 0)])) hid rid_ [] (.v (.slice none 0 0)) (.v (.slice none 0 0)) := ⟨hH.upd (hH.new hr), ⟨upd_same _ _ _, .nil rfl⟩, fun i h1 h2 => by
    rcases h1 with h1 | ⟨l, h1⟩
    · rcases h2 with h2 | ⟨l, h2⟩
      · exact hne (h2.symm.trans h1)
      · cases h2
    · cases h1⟩
  have hF0 : Fr st (upd s1 rid_ (.bx [.v (.slice none 0 0)])) hid rid_ (.v (.slice none 0 0)) (.v (.slice none 0 0)) := ⟨hle.up hr, fun i o hi h => by
    rcases h with (h | ⟨l, h⟩) | (h | ⟨l, h⟩)
    · subst h; rw [h0] at hi; cases hi
    · cases h
    · subst h; rw [hle _ _ hi] at hr; cases hr
    · cases h⟩
  refine Pw.loop (σ := Nat × Pgs × AC × AC × Sto) (fun z => [(7, vI .i64 (z.1 : Int)), (5, .c (.ptr hid 0)), (6, .c (.ptr rid_ 0)), (0, .c (.v (.int .u8 m))), (3, .c (.ep (eHA a)))]) (fun z => z.2.2.2.2) (fun z => OkH z.2.1 ∧ z.1 ≤ N ∧ Two z.2.2.2.2 hid rid_ z.2.1 z.2.2.1 z.2.2.2.1 ∧ Fr st z.2.2.2.2 hid rid_ z.2.2.1 z.2.2.2.1) (fun z => N - z.1) ⟨(0, [], .v (.slice none 0 0), .v (.slice none 0 0), upd s1 rid_ (.bx [.v (.slice none 0 0)])), .mk ⟨rfl, rfl, rfl, rfl, rfl, trivial⟩ (.refl _), okH_nil, Nat.zero_le _, hT0, hF0⟩ ?_
  rintro ⟨i, Ls, x, y, s⟩ ⟨hO, hi1, t, hF⟩
  dsimp only at hO hi1 t hF ⊢
  refine Pw.of TP [] ?_
  conv => whnf
  (refine ⟨rfl, ?_⟩; conv => whnf)
  have hw1 : IntKind.i64.wrap m = m := wrap_id (by omega) (by omega)
  have hw2 : IntKind.i64.wrap (40 + m.tmod 100) = (N : Int) := by rw [wrap_id (by omega) (by omega)]; exact hN
  refine ⟨by decide, ?_⟩
  conv => whnf
  rw [hw1, hw2]
  refine ⟨fun h => ?_, fun h => ?_⟩ <;> conv => whnf
  · have hi : i < N := by omega
    refine ⟨rfl, by decide, by decide, by decide, by decide, by decide, fun id hid1 => ?_⟩
    have hd := done_fresh (n := 250) t hO hid1 (by decide)
    rw [← e250] at hd
    conv => whnf
    refine hd.mono fun r s2 h => ?_
    obtain ⟨rfl, M, x2, y2, hO2, t2, c2⟩ := h
    conv => whnf
    exact ⟨(i + 1, M, x2, y2, s2), .mk ⟨congrArg (fun x => some (vI .i64 x)) (wrap_nat (n := 139) (by omega) (by decide)), rfl, rfl, rfl, rfl, trivial⟩ (.refl _), ⟨hO2, hi, t2, hF.next c2⟩, by dsimp only; omega⟩
  refine (hdone_does t hO a ha).mono fun r s2 h => ?_
  obtain ⟨rfl, x2, y2, t2, c2⟩ := h
  have hO2 := doneH_ok hO a.op (atH Ls a) a.data
  generalize doneH Ls a.op (atH Ls a) a.data = M at t2 hO2
  conv => whnf
  refine (like_does t2 hO2).go ?_
  conv => whnf
  refine hworks_is.call ?_
  conv => whnf
  exact Fin.old rfl (hF.next c2).1
theorem heapFills_law (m : Int) (a : HAct) (hm : (Lit.int .u8 m).wf = true) (ha : wfHAct a) : Is Try.prog 8 [.c (.v (.int .u8 m)), .g (eHA a)] (vB true) := by
  simp [Lit.wf, IntKind.min, IntKind.max, IntKind.bits, IntKind.signed] at hm
  exact heapFills_law0 m (by omega) (by omega) a
end Go.Proofs.Ytfkkajibaeppbaa.D
namespace Go.Proofs.Ytfkkajibaeppbaa.D
set_option linter.unusedVariables false
set_option linter.unusedSimpArgs false
open Go Go.Proofs.Ytfkkajibaeppbaa.D.Pm
set_option maxRecDepth 4000
theorem getH_set {Ls : Pgs} {k : Nat} (hk : k < Ls.length) (L : List Sl) (p s : Int) : getH (Ls.set k L) p s = if p = (k : Int) then getS L s else getH Ls p s := by
  unfold getH pgH
  by_cases hp : p < 0
  · rw [if_pos hp, if_pos hp, if_neg (by omega)]
  · rw [if_neg hp, if_neg hp, List.getElem?_set]
    by_cases e : k = p.toNat
    · rw [if_pos e, if_pos (by omega), if_pos (by omega)]
    · rw [if_neg e, if_neg (by omega)]
theorem slotL_none : ∀ {l : List Sl} {i : Nat}, slotL i l = [] → ∀ j, gs l j = none
  | [], _, _, j => rfl
  | none :: l, i, h, 0 => rfl
  | none :: l, i, h, j + 1 => by
    have := slotL_none (l := l) (i := i + 1) h j
    exact this
  | some d :: l, i, h, j => by cases h
theorem us_none {L : List Sl} (h : usL L = false) (j : Nat) : gs L j = none :=
  slotL_none (i := 0) (List.length_eq_zero_iff.1 (by have h := of_decide_eq_false h; omega)) j
theorem trK_none {Ls : Pgs} : ∀ n, n ≤ Ls.length → ∀ k (hk : k < Ls.length), trK Ls n ≤ k → k < n → usL Ls[k] = false
  | 0, _, k, hk, _, h => absurd h (Nat.not_lt_zero _)
  | n + 1, hn, k, hk, h1, h2 => by
    have hnl : n < Ls.length := by omega
    cases hu : usL Ls[n] with
    | true =>
      rw [(trK_at hnl).1 hu] at h1
      omega
    | false =>
      rw [(trK_at hnl).2 hu] at h1
      by_cases e : k = n
      · subst e; exact hu
      · exact trK_none n (by omega) k hk h1 (by omega)
theorem getS_of_gs {L : List Sl} (h : ∀ j, gs L j = none) (s : Int) : getS L s = none := by
  by_cases hs : s < 0
  · unfold getS; rw [if_pos hs]
  · obtain ⟨j, rfl⟩ : ∃ j : Nat, s = (j : Int) := ⟨s.toNat, by omega⟩
    rw [getS_gs]; exact h j
theorem getH_tr (Ls : Pgs) (p s : Int) : getH (trH Ls) p s = getH Ls p s := by
  unfold getH pgH trH
  by_cases hp : p < 0
  · rw [if_pos hp, if_pos hp]
  rw [if_neg hp, if_neg hp, List.getElem?_take]
  by_cases h : p.toNat < trK Ls Ls.length
  · rw [if_pos h]
  · rw [if_neg h]
    by_cases hk : p.toNat < Ls.length
    · rw [List.getElem?_eq_getElem hk]
      exact (getS_of_gs (us_none (trK_none _ (Nat.le_refl _) _ hk (by omega) hk)) s).symm
    · rw [List.getElem?_eq_none (by omega)]
theorem getS_put {L : List Sl} {s : Int} {d d0 : By} (h : getS L s = some d0) : getS (putL L d) s = some d0 := by
  by_cases hs : s < 0
  · unfold getS at h; rw [if_pos hs] at h; cases h
  · obtain ⟨j, rfl⟩ : ∃ j : Nat, s = (j : Int) := ⟨s.toNat, by omega⟩
    rw [getS_gs] at h ⊢
    rw [gs_put, if_neg (fun e => by subst e; rw [gs_first] at h; cases h)]
    exact h
theorem getH_lt {Ls : Pgs} {p s : Int} {d : By} (h : getH Ls p s = some d) : ∃ k : Nat, p = (k : Int) ∧ ∃ hk : k < Ls.length, getS Ls[k] s = some d := by
  unfold getH at h
  cases hp : pgH Ls p with
  | none => rw [hp] at h; cases h
  | some L =>
    rw [hp] at h
    obtain ⟨k, rfl, hk, rfl⟩ := pgH_some hp
    exact ⟨k, rfl, hk, h⟩
theorem keep_put {Ls : Pgs} {p s : Int} {d d0 : By} (h : getH Ls p s = some d0) : getH (putH Ls d).1 p s = some d0 := by
  unfold putH
  split
  · exact h
  split
  · rename_i h1 h2
    rw [getH_set h2]
    split
    · rename_i e
      obtain ⟨k, rfl, hk, hg⟩ := getH_lt h
      have : k = fitK Ls d := by omega
      subst this
      exact getS_put hg
    · exact h
  split
  · exact h
  · obtain ⟨k, rfl, hk, hg⟩ := getH_lt h
    unfold getH pgH
    rw [if_neg (by omega), Int.toNat_natCast, List.getElem?_append_left hk, List.getElem?_eq_getElem hk]
    exact hg
theorem getS_setO {L : List Sl} {k : Nat} (hk : k < L.length) (v : Sl) {s : Int} (hs : s ≠ (k : Int)) : getS (L.set k v) s = getS L s := by
  by_cases h : s < 0
  · unfold getS; rw [if_pos h, if_pos h]
  · obtain ⟨j, rfl⟩ : ∃ j : Nat, s = (j : Int) := ⟨s.toNat, by omega⟩
    rw [getS_gs, getS_gs, gs_set hk, if_neg (by omega)]
theorem getS_trim (L : List Sl) (s : Int) : getS (trimL L) s = getS L s := by
  by_cases h : s < 0
  · unfold getS; rw [if_pos h, if_pos h]
  · obtain ⟨j, rfl⟩ : ∃ j : Nat, s = (j : Int) := ⟨s.toNat, by omega⟩
    rw [getS_gs, getS_gs, gs_trim]
theorem keep_dropS {L : List Sl} {s s' : Int} (h0 : (dropS L s').2 = 0) (hs : s ≠ s') : getS (dropS L s').1 s = getS L s := by
  unfold dropS at h0 ⊢
  cases hg : getS L s' with
  | none => rw [hg] at h0; cases h0
  | some d0 =>
    obtain ⟨k, rfl, hk, _⟩ := find_some hg
    dsimp only
    rw [Int.toNat_natCast, getS_trim, getS_setO (List.getElem?_eq_some_iff.1 hk).1 _ hs]
theorem keep_setS {L : List Sl} {s s' : Int} {d : By} (h0 : (setS L s' d).2 = 0) (hs : s ≠ s') : getS (setS L s' d).1 s = getS L s := by
  unfold setS at h0 ⊢
  split at h0
  · cases h0
  rename_i h1
  rw [if_neg h1]
  cases hg : getS L s' with
  | none => rw [hg] at h0; cases h0
  | some d0 =>
    obtain ⟨k, rfl, hk, _⟩ := find_some hg
    rw [hg] at h0
    dsimp only at h0 ⊢
    split at h0
    · cases h0
    rename_i h2
    rw [if_neg h2, Int.toNat_natCast, getS_setO (List.getElem?_eq_some_iff.1 hk).1 _ hs]
theorem keep_done {Ls : Pgs} (hO : OkH Ls) {op : Int} {at_ : Int × Int} {d d0 : By} {p s : Int} (h : getH Ls p s = some d0) (hne : ¬ ((p = at_.1 ∧ s = at_.2) ∧ (op = 1 ∨ op = 2))) : getH (doneH Ls op at_ d) p s = some d0 := by
  unfold doneH
  split
  · exact keep_put h
  split
  · rename_i h1
    have hne : p = at_.1 → s ≠ at_.2 := fun e1 e2 => hne ⟨⟨e1, e2⟩, .inl h1⟩
    unfold setH
    cases hp : pgH Ls at_.1 with
    | none => exact h
    | some L =>
      obtain ⟨k, hk1, hk, rfl⟩ := pgH_some hp
      rw [hk1] at hne ⊢
      dsimp only
      rw [Int.toNat_natCast]
      have hkeep : ∀ M : List Sl, (s ≠ at_.2 → getS M s = getS Ls[k] s) → getH (Ls.set k M) p s = some d0 := fun M hM => by
        rw [getH_set hk]
        split
        · rename_i e
          rw [hM (hne e)]
          unfold getH at h
          rw [e, pgH_at hk] at h
          exact h
        · exact h
      split
      · rename_i h0
        exact hkeep _ fun e => keep_setS h0 e
      split
      · rename_i h5
        have h6 := setS_full h5
        unfold moveH
        split
        · rw [getH_tr]
          exact keep_put (hkeep _ fun e => keep_dropS h6 e)
        · exact h
      · exact h
  split
  · rename_i h0 h1 h2
    have hne : p = at_.1 → s ≠ at_.2 := fun e1 e2 => hne ⟨⟨e1, e2⟩, .inr h2⟩
    unfold dropH
    cases hp : pgH Ls at_.1 with
    | none => exact h
    | some L =>
      obtain ⟨k, hk1, hk, rfl⟩ := pgH_some hp
      rw [hk1] at hne ⊢
      dsimp only
      rw [Int.toNat_natCast]
      split
      · rename_i h3
        dsimp only
        rw [getH_tr, getH_set hk]
        split
        · rename_i e
          rw [keep_dropS h3 (hne e)]
          unfold getH at h
          rw [e, pgH_at hk] at h
          exact h
        · exact h
      · exact h
  · exact h
end Go.Proofs.Ytfkkajibaeppbaa.D
namespace Go.Proofs.Ytfkkajibaeppbaa.D
set_option linter.unusedVariables false
set_option linter.unusedSimpArgs false
open Go Go.Proofs.Ytfkkajibaeppbaa.D.Pm
set_option maxRecDepth 4000
def cS : List Sl → Nat
  | [] => 0
  | none :: l => cS l
  | some _ :: l => cS l + 1
def b1 : Sl → Nat | none => 0 | some _ => 1
theorem cS_cons (a : Sl) (l : List Sl) : cS (a :: l) = b1 a + cS l := by cases a <;> simp [cS, b1]; omega
theorem slotL_cS : ∀ (l : List Sl) (i : Nat), (slotL i l).length = cS l
  | [], i => rfl
  | none :: l, i => slotL_cS l (i + 1)
  | some d :: l, i => by simp only [slotL, cS, List.length_cons, slotL_cS l (i + 1)]
theorem cS_app : ∀ (l m : List Sl), cS (l ++ m) = cS l + cS m
  | [], m => by simp [cS]
  | a :: l, m => by rw [List.cons_append, cS_cons, cS_cons, cS_app l m]; omega
theorem cS_set : ∀ {l : List Sl} {k : Nat} (hk : k < l.length) (v : Sl), cS (l.set k v) + b1 l[k] = cS l + b1 v
  | a :: l, 0, hk, v => by simp only [List.set_cons_zero, cS_cons, List.getElem_cons_zero]; omega
  | a :: l, k + 1, hk, v => by
    have := cS_set (l := l) (k := k) (by simpa using hk) v
    simp only [List.set_cons_succ, cS_cons, List.getElem_cons_succ]
    omega
theorem cS_none : ∀ {l : List Sl}, (∀ k (hk : k < l.length), l[k] = none) → cS l = 0
  | [], _ => rfl
  | a :: l, h => by
    have h0 : a = none := h 0 (by simp)
    have := cS_none (l := l) fun k hk => h (k + 1) (by simpa using hk)
    rw [cS_cons, h0, this]
    rfl
theorem cS_trim (l : List Sl) : cS (trimL l) = cS l := by
  unfold trimL
  have h := cS_app (l.take (trimN l)) (l.drop (trimN l))
  rw [List.take_append_drop] at h
  have h0 : cS (l.drop (trimN l)) = 0 := cS_none fun k hk => by
    rw [List.length_drop] at hk
    rw [List.getElem_drop]
    exact trimN_none (by omega) (by omega)
  omega
theorem cS_put (l : List Sl) (d : By) : cS (putL l d) = cS l + 1 := by
  unfold putL
  by_cases h : firstE l = l.length
  · rw [if_pos h, cS_app]; rfl
  · rw [if_neg h]
    have hlt : firstE l < l.length := by have := firstE_le l; omega
    have := cS_set hlt (some d)
    rw [firstE_none hlt] at this
    simp only [b1] at this
    omega
theorem cS_drop {L : List Sl} {s : Int} (h0 : (dropS L s).2 = 0) : cS (dropS L s).1 + 1 = cS L := by
  unfold dropS at h0 ⊢
  cases hg : getS L s with
  | none => rw [hg] at h0; cases h0
  | some d0 =>
    obtain ⟨k, rfl, hk, _⟩ := find_some hg
    obtain ⟨h1, h2⟩ := List.getElem?_eq_some_iff.1 hk
    dsimp only
    rw [Int.toNat_natCast, cS_trim]
    have := cS_set h1 none
    rw [h2] at this
    simp only [b1] at this
    omega
theorem cS_setS {L : List Sl} {s : Int} {d : By} (h0 : (setS L s d).2 = 0) : cS (setS L s d).1 = cS L := by
  unfold setS at h0 ⊢
  split at h0
  · cases h0
  rename_i h1
  rw [if_neg h1]
  cases hg : getS L s with
  | none => rw [hg] at h0; cases h0
  | some d0 =>
    obtain ⟨k, rfl, hk, _⟩ := find_some hg
    obtain ⟨h3, h4⟩ := List.getElem?_eq_some_iff.1 hk
    rw [hg] at h0
    dsimp only at h0 ⊢
    split at h0
    · cases h0
    rename_i h2
    rw [if_neg h2, Int.toNat_natCast]
    have := cS_set h3 (some d)
    rw [h4] at this
    simp only [b1] at this
    show cS (L.set k (some d)) = cS L
    omega
def cH : Pgs → Nat
  | [] => 0
  | L :: r => cS L + cH r
theorem itH_cH : ∀ (Ls : Pgs) (n : Nat), (itH n Ls).length = cH Ls
  | [], n => rfl
  | L :: r, n => by
    simp only [itH, List.length_append, cH, itH_cH r (n + 1)]
    unfold itL
    rw [List.length_map, slotL_cS]
theorem cH_app : ∀ (l m : Pgs), cH (l ++ m) = cH l + cH m
  | [], m => by simp [cH]
  | a :: l, m => by simp only [List.cons_append, cH, cH_app l m]; omega
theorem cH_set : ∀ {Ls : Pgs} {k : Nat} (hk : k < Ls.length) (L : List Sl), cH (Ls.set k L) + cS Ls[k] = cH Ls + cS L
  | a :: l, 0, hk, v => by simp only [List.set_cons_zero, cH, List.getElem_cons_zero]; omega
  | a :: l, k + 1, hk, v => by
    have := cH_set (Ls := l) (k := k) (by simpa using hk) v
    simp only [List.set_cons_succ, cH, List.getElem_cons_succ]
    omega
theorem cH_none : ∀ {Ls : Pgs}, (∀ k (hk : k < Ls.length), cS Ls[k] = 0) → cH Ls = 0
  | [], _ => rfl
  | a :: l, h => by
    have h0 : cS a = 0 := h 0 (by simp)
    have := cH_none (Ls := l) fun k hk => h (k + 1) (by simpa using hk)
    simp only [cH, h0, this]
theorem cH_tr (Ls : Pgs) : cH (trH Ls) = cH Ls := by
  unfold trH
  have h := cH_app (Ls.take (trK Ls Ls.length)) (Ls.drop (trK Ls Ls.length))
  rw [List.take_append_drop] at h
  have h0 : cH (Ls.drop (trK Ls Ls.length)) = 0 := cH_none fun k hk => by
    rw [List.length_drop] at hk
    rw [List.getElem_drop]
    have := trK_none _ (Nat.le_refl Ls.length) (trK Ls Ls.length + k) (by omega) (by omega) (by omega)
    have h2 := of_decide_eq_false this
    rw [slotL_cS] at h2
    omega
  omega
theorem cH_put (Ls : Pgs) (d : By) : ((putH Ls d).2.2 = 0 → cH (putH Ls d).1 = cH Ls + 1) ∧ ((putH Ls d).2.2 ≠ 0 → cH (putH Ls d).1 = cH Ls) := by
  refine ⟨fun h => ?_, fun h => by rw [putH_bad h]⟩
  unfold putH at h ⊢
  split at h
  · cases h
  rename_i h1
  rw [if_neg h1]
  split at h
  · rename_i h2
    rw [dif_pos h2]
    have := cH_set h2 (putL Ls[fitK Ls d] d)
    rw [cS_put] at this
    dsimp only
    omega
  rename_i h2
  rw [dif_neg h2]
  split at h
  · cases h
  · rename_i h3
    rw [if_neg h3]
    dsimp only
    rw [cH_app]
    have := cS_put [] d
    simp only [cH, cS] at this ⊢
    omega
theorem cH_done {Ls : Pgs} {op : Int} {at_ : Int × Int} {d : By} : cH (doneH Ls op at_ d) ≤ cH Ls + 1 ∧ cH Ls ≤ cH (doneH Ls op at_ d) + 1 := by
  have hput : ∀ M, cH (putH M d).1 ≤ cH M + 1 ∧ cH M ≤ cH (putH M d).1 := fun M => by
    have := cH_put M d
    by_cases e : (putH M d).2.2 = 0
    · have := this.1 e; omega
    · have := this.2 e; omega
  unfold doneH
  split
  · have := hput Ls; omega
  split
  · unfold setH
    cases hp : pgH Ls at_.1 with
    | none => dsimp only; omega
    | some L =>
      obtain ⟨k, hk1, hk, rfl⟩ := pgH_some hp
      rw [hk1]
      dsimp only
      rw [Int.toNat_natCast]
      split
      · rename_i h0
        have h1 := cH_set hk (setS Ls[k] at_.2 d).1
        rw [cS_setS h0] at h1
        dsimp only
        omega
      split
      · rename_i h5
        have h6 := setS_full h5
        have h1 := cH_set hk (dropS Ls[k] at_.2).1
        have h2 := cS_drop h6
        have h3 := hput (Ls.set k (dropS Ls[k] at_.2).1)
        unfold moveH
        split
        · dsimp only
          rw [cH_tr]
          omega
        · dsimp only; omega
      · dsimp only; omega
  split
  · unfold dropH
    cases hp : pgH Ls at_.1 with
    | none => dsimp only; omega
    | some L =>
      obtain ⟨k, hk1, hk, rfl⟩ := pgH_some hp
      rw [hk1]
      dsimp only
      rw [Int.toNat_natCast]
      split
      · rename_i h3
        have h1 := cH_set hk (dropS Ls[k] at_.2).1
        have h2 := cS_drop h3
        dsimp only
        rw [cH_tr]
        omega
      · dsimp only; omega
  · omega
end Go.Proofs.Ytfkkajibaeppbaa.D
