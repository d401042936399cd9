/- Words and contracts: a plain machine over the model, and what the functions that a law reaches come to, each for every input that its theorem names. -/
import Derived.Test.YtfkkajibaeppbaaK7
namespace Go.Proofs.Ytfkkajibaeppbaa.D
set_option linter.unusedVariables false
set_option linter.unusedSimpArgs false
open Go Go.Proofs.Ytfkkajibaeppbaa.D.Pm
set_option maxRecDepth 4000
theorem setH_ok {Ls : Pgs} (hO : OkH Ls) (p s : Int) (d : By) : OkH (setH Ls p s d).1 := by
  unfold setH
  cases hp : pgH Ls p with
  | none => exact hO
  | some L =>
    obtain ⟨k, rfl, hk, rfl⟩ := pgH_some hp
    have hOk := hO.1 _ (List.getElem_mem hk)
    dsimp only
    split
    · rename_i h0
      exact hO.set (setS_ok hOk s d h0) _
    · split
      · rename_i h5
        have h6 := dropS_ok hOk s (setS_full h5)
        unfold moveH
        split
        · exact (putH_ok (hO.set h6 _) d).tr
        · exact hO
      · exact hO
theorem dropH_ok {Ls : Pgs} (hO : OkH Ls) (p s : Int) : OkH (dropH Ls p s).1 := by
  unfold dropH
  cases hp : pgH Ls p with
  | none => exact hO
  | some L =>
    obtain ⟨k, rfl, hk, rfl⟩ := pgH_some hp
    have hOk := hO.1 _ (List.getElem_mem hk)
    dsimp only
    split
    · rename_i h0
      exact (hO.set (dropS_ok hOk s h0) _).tr
    · exact hO
theorem doneH_ok {Ls : Pgs} (hO : OkH Ls) (op : Int) (at_ : Int × Int) (d : By) : OkH (doneH Ls op at_ d) := by
  unfold doneH
  split
  · exact putH_ok hO d
  split
  · exact setH_ok hO _ _ d
  split
  · exact dropH_ok hO _ _
  · exact hO
def Fr (st : Sto) (s : Sto) (hid rid_ : Nat) (x y : AC) : Prop := Le st s ∧ ∀ i o, st i = some o → ¬ ow2 hid rid_ x y i
theorem Fr.next {st s s' : Sto} {hid rid_ : Nat} {x y x' y' : AC} (h : Fr st s hid rid_ x y) (c : Chg s s' (ow2 hid rid_ x y) (ow2 hid rid_ x' y')) : Fr st s' hid rid_ x' y' := Chg.le h.1 c h.2
theorem heapPlays_law0 (l : List HAct) (hl : l.length ≤ maxLen) : Is Try.prog 7 [.c (.sl 5 (l.map eHA))] (vB true) := by
  have hll : ((l.map eHA).length : Int) = (l.length : Nat) := by rw [List.length_map]
  refine Is.of TP Try.func7 rfl rfl (Nat.le_of_ble_eq_true rfl) fun st => Pw.of TP [1000008] ?_
  conv => whnf
  refine (hnew_does st).mono fun r s1 h => ?_
  obtain ⟨hid, rfl, h0, hH, hle⟩ := h
  conv => whnf
  intro rid_ hr
  conv => whnf
  have hne : rid_ ≠ hid := fun e => by subst e; rw [hH.bx] at hr; cases hr
  have hT0 : Two (upd s1 rid_ (.bx [.v (.slice none 0 0)])) hid rid_ [] (.v (.slice none 0 0)) (.v (.slice none 0 0)) := ⟨hH.upd (hH.new hr), ⟨upd_same _ _ _, .nil rfl⟩, fun i h1 h2 => by
    rcases h1 with h1 | ⟨l, h1⟩
    · rcases h2 with h2 | ⟨l, h2⟩
      · exact hne (h2.symm.trans h1)
      · cases h2
    · cases h1⟩
  have hF0 : Fr st (upd s1 rid_ (.bx [.v (.slice none 0 0)])) hid rid_ (.v (.slice none 0 0)) (.v (.slice none 0 0)) := ⟨hle.up hr, fun i o hi h => by
    rcases h with (h | ⟨l, h⟩) | (h | ⟨l, h⟩)
    · subst h; rw [h0] at hi; cases hi
    · cases h
    · subst h; rw [hle _ _ hi] at hr; cases hr
    · cases h⟩
  refine Pw.loop (σ := Nat × Pgs × AC × AC × Sto) (fun z => [(5, vI .i64 (z.1 : Int)), (3, .c (.ptr hid 0)), (4, .c (.ptr rid_ 0)), (0, .c (.sl 5 (l.map eHA)))]) (fun z => z.2.2.2.2) (fun z => OkH z.2.1 ∧ z.1 ≤ l.length ∧ z.1 ≤ 60 ∧ Two z.2.2.2.2 hid rid_ z.2.1 z.2.2.1 z.2.2.2.1 ∧ Fr st z.2.2.2.2 hid rid_ z.2.2.1 z.2.2.2.1) (fun z => 60 - z.1) ⟨(0, [], .v (.slice none 0 0), .v (.slice none 0 0), upd s1 rid_ (.bx [.v (.slice none 0 0)])), .mk ⟨rfl, rfl, rfl, rfl, trivial⟩ (.refl _), okH_nil, Nat.zero_le _, Nat.zero_le _, hT0, hF0⟩ ?_
  rintro ⟨i, Ls, x, y, s⟩ ⟨hO, hi1, hi2, t, hF⟩
  dsimp only at hO hi1 hi2 t hF ⊢
  refine Pw.of TP [] ?_
  conv => whnf
  have hw := hworks_is.call (st := s) (K := fun r s => Fin (fun r' s => r' = vB true ∧ s = st) r s) (Fin.old rfl hF.1)
  refine ⟨fun h => ?_, fun h => ?_⟩ <;> conv => whnf
  case' refine_1 =>
    refine ⟨fun h60 => ?_, fun h60 => ?_⟩ <;> conv => whnf
  case' refine_1.refine_1 =>
    have hi : i < l.length := by omega
    have h60x : i < 60 := by omega
    have key : ∀ F : List AC → Prop, F (eHA l[i]) → 0 ≤ (i : Int) ∧ (i : Int) < ((l.map eHA).length : Nat) ∧ ∃ r, (l.map eHA)[(i : Int).toNat]? = some r ∧ F r := fun F hF => ixm hi hF
    generalize l[i] = a at key
    refine key _ ?_
    conv => whnf
    refine (hlong_is a).callB fun b hb => ?_
    rcases b with _ | _
    rotate_left
    · conv => whnf
      refine hworks_is.call ?_
      conv => whnf
      exact Fin.old rfl hF.1
    conv => whnf
    have ha : a.data.length ≤ 400 := by have := of_decide_eq_false hb; omega
    refine key _ ?_
    conv => whnf
    refine (hdone_does t hO a ha).mono fun r s2 h => ?_
    obtain ⟨rfl, x2, y2, t2, c2⟩ := h
    have hO2 := doneH_ok hO a.op (atH Ls a) a.data
    generalize doneH Ls a.op (atH Ls a) a.data = M at t2 hO2
    have h3 := hlen_does t2.h hO2
    have h4 := rall_does t2.r hO2
    generalize itH 0 M = T at h3 h4
    have hTl : ((T.map itC).length : Int) = (T.length : Nat) := by rw [List.length_map]
    conv => whnf
    refine h3.go ?_
    conv => whnf
    refine h4.go ?_
    conv => whnf
    rw [hTl]
    refine ⟨fun h => absurd rfl h, fun _ => ?_⟩
    conv => whnf
    exact ⟨(i + 1, M, x2, y2, s2), .mk ⟨congrArg (fun x => some (vI .i64 x)) (wrap_nat (n := 60) (by omega) (by decide)), rfl, rfl, rfl, trivial⟩ (.refl _), ⟨hO2, hi, h60x, t2, hF.next c2⟩, by dsimp only; omega⟩
  all_goals
    refine (like_does t hO).go ?_
    conv => whnf
    refine hworks_is.call ?_
    conv => whnf
    exact Fin.old rfl hF.1
theorem heapPlays_law (l : List HAct) (h : wfHActs l) : Is Try.prog 7 [.c (.sl 5 (l.map eHA))] (vB true) := heapPlays_law0 l h.1
end Go.Proofs.Ytfkkajibaeppbaa.D
