/- Words and contracts: a plain machine over the model, and what the functions that a law reaches come to, each for every input that its theorem names. -/
import Derived.Test.YtfkkajibaeppbaaK8
namespace Go.Proofs.Ytfkkajibaeppbaa.D
set_option linter.unusedVariables false
set_option linter.unusedSimpArgs false
open Go Go.Proofs.Ytfkkajibaeppbaa.D.Pm
set_option maxRecDepth 4000
theorem heapKeeps_law0 (l : List HAct) (a0 : HAct) : Is Try.prog 6 [.c (.sl 5 (l.map eHA)), .g (eHA a0)] (vB true) := by
  have hll : ((l.map eHA).length : Int) = (l.length : Nat) := by rw [List.length_map]
  refine Is.of TP Try.func6 rfl rfl (Nat.le_of_ble_eq_true rfl) fun st => Pw.of TP [1000017, 9] ?_
  conv => whnf
  refine (hnew_does st).mono fun r s1 h => ?_
  obtain ⟨hid, rfl, h0, hH, hle⟩ := h
  conv => whnf
  intro rid_ hr
  conv => whnf
  have hne : rid_ ≠ hid := fun e => by subst e; rw [hH.bx] at hr; cases hr
  have hT0 : Two (upd s1 rid_ (.bx [.v (.slice none 0 0)])) hid rid_ [] (.v (.slice none 0 0)) (.v (.slice none 0 0)) := ⟨hH.upd (hH.new hr), ⟨upd_same _ _ _, .nil rfl⟩, fun i h1 h2 => by
    rcases h1 with h1 | ⟨l, h1⟩
    · rcases h2 with h2 | ⟨l, h2⟩
      · exact hne (h2.symm.trans h1)
      · cases h2
    · cases h1⟩
  have hF0 : Fr st (upd s1 rid_ (.bx [.v (.slice none 0 0)])) hid rid_ (.v (.slice none 0 0)) (.v (.slice none 0 0)) := ⟨hle.up hr, fun i o hi h => by
    rcases h with (h | ⟨l, h⟩) | (h | ⟨l, h⟩)
    · subst h; rw [h0] at hi; cases hi
    · cases h
    · subst h; rw [hle _ _ hi] at hr; cases hr
    · cases h⟩
  refine Pw.loop (σ := Nat × Pgs × AC × AC × Sto) (fun z => [(7, vI .i64 (z.1 : Int)), (5, .c (.ptr hid 0)), (6, .c (.ptr rid_ 0)), (0, .c (.sl 5 (l.map eHA))), (3, .c (.ep (eHA a0)))]) (fun z => z.2.2.2.2) (fun z => OkH z.2.1 ∧ z.1 ≤ l.length ∧ z.1 ≤ 60 ∧ Two z.2.2.2.2 hid rid_ z.2.1 z.2.2.1 z.2.2.2.1 ∧ Fr st z.2.2.2.2 hid rid_ z.2.2.1 z.2.2.2.1) (fun z => 60 - z.1) ⟨(0, [], .v (.slice none 0 0), .v (.slice none 0 0), upd s1 rid_ (.bx [.v (.slice none 0 0)])), .mk ⟨rfl, rfl, rfl, rfl, rfl, trivial⟩ (.refl _), okH_nil, Nat.zero_le _, Nat.zero_le _, hT0, hF0⟩ ?_
  rintro ⟨i, Ls, x, y, s⟩ ⟨hO, hi1, hi2, t, hF⟩
  dsimp only at hO hi1 hi2 t hF ⊢
  refine Pw.of TP [9] ?_
  conv => whnf
  refine ⟨fun h => ?_, fun h => ?_⟩ <;> conv => whnf
  case' refine_1 =>
    refine ⟨fun h60 => ?_, fun h60 => ?_⟩ <;> conv => whnf
  case' refine_1.refine_1 =>
    have hi : i < l.length := by omega
    have h60x : i < 60 := by omega
    have key : ∀ F : List AC → Prop, F (eHA l[i]) → 0 ≤ (i : Int) ∧ (i : Int) < ((l.map eHA).length : Nat) ∧ ∃ r, (l.map eHA)[(i : Int).toNat]? = some r ∧ F r := fun F hF => ixm hi hF
    generalize l[i] = a at key
    refine key _ ?_
    conv => whnf
    refine (hlong_is a).callB fun b hb => ?_
    rcases b with _ | _
    rotate_left
    · conv => whnf
      refine hworks_is.call ?_
      conv => whnf
      exact Fin.old rfl hF.1
    conv => whnf
    have ha : a.data.length ≤ 400 := by have := of_decide_eq_false hb; omega
    refine key _ ?_
    conv => whnf
    refine (hdone_does t hO a ha).mono fun r s2 h => ?_
    obtain ⟨rfl, x2, y2, t2, c2⟩ := h
    have hO2 := doneH_ok hO a.op (atH Ls a) a.data
    generalize doneH Ls a.op (atH Ls a) a.data = M at t2 hO2
    conv => whnf
    exact ⟨(i + 1, M, x2, y2, s2), .mk ⟨congrArg (fun x => some (vI .i64 x)) (wrap_nat (n := 60) (by omega) (by decide)), rfl, rfl, rfl, rfl, trivial⟩ (.refl _), ⟨hO2, hi, h60x, t2, hF.next c2⟩, by dsimp only; omega⟩
  all_goals
    refine Pw.vw (env' := [(5, .c (.ptr hid 0)), (6, .c (.ptr rid_ 0)), (3, .c (.ep (eHA a0)))]) (st' := s) (.mk ⟨rfl, rfl, rfl, trivial⟩ (.refl _)) (Pw.of TP [22] ?_)
    conv => whnf
    refine (hlong_is a0).callB fun b hb => ?_
    rcases b with _ | _
    rotate_left
    · conv => whnf
      refine hworks_is.call ?_
      conv => whnf
      exact Fin.old rfl hF.1
    conv => whnf
    have ha : a0.data.length ≤ 400 := by have := of_decide_eq_false hb; omega
    have hpl := place_does t.r hO a0
    have hat : plT (itH 0 Ls) a0.of a0.page a0.slot = atH Ls a0 := rfl
    rw [hat] at hpl
    refine (hall_does t.h hO).go ?_
    conv => whnf
    refine hpl.go ?_
    conv => whnf
    refine (hdone_does t hO a0 ha).mono fun r s2 h => ?_
    obtain ⟨rfl, x2, y2, t2, c2⟩ := h
    have hO2 := doneH_ok hO a0.op (atH Ls a0) a0.data
    have hkeep := fun {p q : Int} {d0 : By} => keep_done (d := a0.data) (op := a0.op) (at_ := atH Ls a0) hO (d0 := d0) (p := p) (s := q)
    have hcnt := cH_done (Ls := Ls) (op := a0.op) (at_ := atH Ls a0) (d := a0.data)
    generalize doneH Ls a0.op (atH Ls a0) a0.data = M at t2 hO2 hkeep hcnt
    have hF2 := hF.next c2
    conv => whnf
    refine (hall_does t2.h hO2).go ?_
    rw [← itH_cH Ls 0, ← itH_cH M 0] at hcnt
    have hb1 := hO.its
    have hb2 := hO2.its
    have hget := fun y (h : y ∈ itH 0 Ls) => itH_get hO h
    generalize itH 0 Ls = T at hb1 hcnt hget
    generalize itH 0 M = T2 at hb2 hcnt
    generalize atH Ls a0 = at_ at hkeep
    have hTl : ((T.map itC).length : Int) = (T.length : Nat) := by rw [List.length_map]
    have hTl2 : ((T2.map itC).length : Int) = (T2.length : Nat) := by rw [List.length_map]
    conv => whnf
    refine Pw.rng (τ := Unit) 11 T.length (by unfold Big; omega) [5, 3, 8, 9, 10] (fun _ => []) (fun k _ => True) () rfl trivial trivial fun k _ hk hf => Pw.of TP [22] ?_
    conv => whnf
    rw [hTl]
    refine ⟨fun hk1 => ?_, fun hk1 => ?_⟩ <;> conv => whnf
    · have hk1 : k < T.length := by omega
      have key : ∀ F : List AC → Prop, F (itC T[k]) → 0 ≤ (k : Int) ∧ (k : Int) < ((T.map itC).length : Nat) ∧ ∃ r, (T.map itC)[(k : Int).toNat]? = some r ∧ F r := fun F hF => ixm hk1 hF
      obtain ⟨hg1, hg2⟩ := hget _ (List.getElem_mem hk1)
      generalize T[k] = z at key hg1 hg2
      obtain ⟨z1, z2, z3⟩ := z
      dsimp only at hg1 hg2
      have hk3 := hkeep hg1
      have hsame := same_is z3 z3 (by unfold Big; omega)
      rw [decide_eq_true rfl] at hsame
      have hgt := hget_does t2.h hO2 (z1 : Int) (z2 : Int)
      refine Pw.drw TP mixed (by kernel_rfl) ?_; conv => whnf
      refine key _ ?_
      conv => whnf
      refine ⟨fun he => ?_, fun he => ?_⟩ <;> conv => whnf
      · refine ⟨fun h1 => ?_, fun h1 => ?_⟩ <;> conv => whnf
        · exact ⟨hk1, rfl, ⟨rfl, rfl, rfl, rfl, rfl, trivial⟩, (), trivial, .refl _, trivial⟩
        refine ⟨fun h2 => ?_, fun h2 => ?_⟩ <;> conv => whnf
        · exact ⟨hk1, rfl, ⟨rfl, rfl, rfl, rfl, rfl, trivial⟩, (), trivial, .refl _, trivial⟩
        have hk4 := hk3 (fun e => e.2.elim h1 h2)
        rw [hk4] at hgt
        refine key _ ?_
        conv => whnf
        refine hgt.go ?_
        conv => whnf
        refine ⟨fun h => absurd rfl h, fun _ => ?_⟩
        conv => whnf
        refine key _ ?_
        conv => whnf
        refine hsame.call ?_
        conv => whnf
        exact ⟨hk1, rfl, ⟨rfl, rfl, rfl, rfl, rfl, trivial⟩, (), trivial, .refl _, trivial⟩
      · have hk4 := hk3 (fun e => he ⟨e.1.1, e.1.2, trivial⟩)
        rw [hk4] at hgt
        refine key _ ?_
        conv => whnf
        refine hgt.go ?_
        conv => whnf
        refine ⟨fun h => absurd rfl h, fun _ => ?_⟩
        conv => whnf
        refine key _ ?_
        conv => whnf
        refine hsame.call ?_
        conv => whnf
        exact ⟨hk1, rfl, ⟨rfl, rfl, rfl, rfl, rfl, trivial⟩, (), trivial, .refl _, trivial⟩
    · refine Pw.of TP [] ?_
      conv => whnf
      rw [hTl, hTl2]
      have hw : IntKind.i64.wrap ((T2.length : Int) - (T.length : Int)) = (T2.length : Int) - (T.length : Int) := wrap_id (by omega) (by omega)
      rw [hw]
      refine ⟨fun _ => ?_, fun h => absurd (by omega) h⟩
      conv => whnf
      refine ⟨fun _ => ?_, fun h => absurd (by omega) h⟩
      conv => whnf
      refine hworks_is.call ?_
      conv => whnf
      exact Fin.old rfl hF2.1
theorem heapKeeps_law (l : List HAct) (a : HAct) (hl : wfHActs l) (ha : wfHAct a) : Is Try.prog 6 [.c (.sl 5 (l.map eHA)), .g (eHA a)] (vB true) := heapKeeps_law0 l a
end Go.Proofs.Ytfkkajibaeppbaa.D
