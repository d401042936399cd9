/- Words and contracts: a plain machine over the model, and what the functions that a law reaches come to, each for every input that its theorem names. -/
import Derived.Test.YtfkkajibaeppbaaK8
namespace Go.Proofs.Ytfkkajibaeppbaa.D
set_option linter.unusedVariables false
set_option linter.unusedSimpArgs false
open Go Go.Proofs.Ytfkkajibaeppbaa.D.Pm
set_option maxRecDepth 4000
theorem Fz.live {st : Sto} {id : Nat} {p : By} {n : Nat} (hs : LiveP st id p) (hn : n = p.length) : Fz (only id) st (.arr id 0 n) (.sl 1 (byl p)) := by
  have := Fz.arr0 (D := only id) (st := st) (by simp [only]) hs byl_row
  rw [byl_length] at this
  exact hn ▸ this
def z250 : By := List.replicate 250 0
theorem Two.upd {s : Sto} {hid rid_ id : Nat} {Ls : Pgs} {x y : AC} {o : Ob} (t : Two s hid rid_ Ls x y) (hn : s id = none) : Two (Pm.del (Pm.upd s id o) id) hid rid_ Ls x y := by
  have e : Pm.del (Pm.upd s id o) id = s := by
    funext i
    unfold Pm.del Pm.upd
    split
    · rename_i e; rw [e, hn]
    · rfl
  rw [e]
  exact t
theorem done_fresh {s : Sto} {hid rid_ id n : Nat} {Ls : Pgs} {x y : AC} (t : Two s hid rid_ Ls x y) (hO : OkH Ls) (hn : s id = none) (hl : n = z250.length) : Does Try.prog 29 [.c (.ptr hid 0), .c (.ptr rid_ 0), .g [.v (.int .i64 0), .v (.bool false), .v (.int .i64 0), .v (.int .i64 0), .arr id 0 n]] (upd s id (.ar 1 (byl z250))) fun r s' => r = vB true ∧ ∃ M x' y', OkH M ∧ Two s' hid rid_ M x' y' ∧ Chg s s' (ow2 hid rid_ x y) (ow2 hid rid_ x' y') := by
  have e : Pm.del (Pm.upd s id (.ar 1 (byl z250))) id = s := by
    funext i
    unfold Pm.del Pm.upd
    split
    · rename_i e; rw [e, hn]
    · rfl
  refine Does.argsD (as' := [.c (.ptr hid 0), .c (.ptr rid_ 0), .g (eHA ⟨0, false, 0, 0, z250⟩)]) (only id) (st' := s) (fun i o hi => ?_) rfl (fun j r r' h1 h2 => ?_) ((hdone_does t hO ⟨0, false, 0, 0, z250⟩ (by decide)).mono fun r s' h => ?_)
  · have hne : i ≠ id := fun e => by subst e; rw [hn] at hi; cases hi
    exact ⟨by rw [upd_ne _ hne]; exact hi, by simp [only, hne]⟩
  · match j, h1, h2 with
    | 0, h1, h2 => cases h1; cases h2; exact .refl _
    | 1, h1, h2 => cases h1; cases h2; exact .refl _
    | 2, h1, h2 =>
      cases h1; cases h2
      exact FV.gl (.cons (.refl _) (.cons (.refl _) (.cons (.refl _) (.cons (.refl _) (.cons (Fz.live (upd_same _ _ _) hl) .nil)))))
    | j + 3, h1, h2 => simp at h1
  · obtain ⟨rfl, x', y', t', c'⟩ := h
    exact ⟨rfl, _, x', y', doneH_ok hO _ _ _, t', c'⟩
theorem heapFills_law0 (m : Int) (h0m : 0 ≤ m) (h1m : m < 256) (a : HAct) : Is Try.prog 8 [.c (.v (.int .u8 m)), .g (eHA a)] (vB true) := by
  have e250 : List.replicate 250 [AC.v (.int .u8 0)] = byl z250 := by unfold z250; rw [byl_rep]
  obtain ⟨N, hN, hN2⟩ : ∃ N : Nat, 40 + m.tmod 100 = (N : Int) ∧ N ≤ 139 := by
    have b1 := Int.tmod_nonneg (100 : Int) h0m
    have b2 := Int.tmod_lt_of_pos m (b := 100) (by decide)
    exact ⟨(40 + m.tmod 100).toNat, by omega, by omega⟩
  refine Is.of TP Try.func8 rfl rfl (Nat.le_of_ble_eq_true rfl) fun st => Pw.of TP [1000013, 1000012] ?_
  conv => whnf
  refine (hlong_is a).callB fun b hb => ?_
  rcases b with _ | _
  rotate_left
  · conv => whnf
    refine hworks_is.call ?_
    conv => whnf
    exact Fin.old rfl (.refl _)
  have ha : a.data.length ≤ 400 := by have := of_decide_eq_false hb; omega
  conv => whnf
  refine (hnew_does st).mono fun r s1 h => ?_
  obtain ⟨hid, rfl, h0, hH, hle⟩ := h
  conv => whnf
  intro rid_ hr
  conv => whnf
  have hne : rid_ ≠ hid := fun e => by subst e; rw [hH.bx] at hr; cases hr
  have hT0 : Two (upd s1 rid_ (.bx [.v (.slice none 0 0)])) hid rid_ [] (.v (.slice none 0 0)) (.v (.slice none 0 0)) := ⟨hH.upd (hH.new hr), ⟨upd_same _ _ _, .nil rfl⟩, fun i h1 h2 => by
    rcases h1 with h1 | ⟨l, h1⟩
    · rcases h2 with h2 | ⟨l, h2⟩
      · exact hne (h2.symm.trans h1)
      · cases h2
    · cases h1⟩
  have hF0 : Fr st (upd s1 rid_ (.bx [.v (.slice none 0 0)])) hid rid_ (.v (.slice none 0 0)) (.v (.slice none 0 0)) := ⟨hle.up hr, fun i o hi h => by
    rcases h with (h | ⟨l, h⟩) | (h | ⟨l, h⟩)
    · subst h; rw [h0] at hi; cases hi
    · cases h
    · subst h; rw [hle _ _ hi] at hr; cases hr
    · cases h⟩
  refine Pw.loop (σ := Nat × Pgs × AC × AC × Sto) (fun z => [(7, vI .i64 (z.1 : Int)), (5, .c (.ptr hid 0)), (6, .c (.ptr rid_ 0)), (0, .c (.v (.int .u8 m))), (3, .c (.ep (eHA a)))]) (fun z => z.2.2.2.2) (fun z => OkH z.2.1 ∧ z.1 ≤ N ∧ Two z.2.2.2.2 hid rid_ z.2.1 z.2.2.1 z.2.2.2.1 ∧ Fr st z.2.2.2.2 hid rid_ z.2.2.1 z.2.2.2.1) (fun z => N - z.1) ⟨(0, [], .v (.slice none 0 0), .v (.slice none 0 0), upd s1 rid_ (.bx [.v (.slice none 0 0)])), .mk ⟨rfl, rfl, rfl, rfl, rfl, trivial⟩ (.refl _), okH_nil, Nat.zero_le _, hT0, hF0⟩ ?_
  rintro ⟨i, Ls, x, y, s⟩ ⟨hO, hi1, t, hF⟩
  dsimp only at hO hi1 t hF ⊢
  refine Pw.of TP [] ?_
  conv => whnf
  (refine ⟨rfl, ?_⟩; conv => whnf)
  have hw1 : IntKind.i64.wrap m = m := wrap_id (by omega) (by omega)
  have hw2 : IntKind.i64.wrap (40 + m.tmod 100) = (N : Int) := by rw [wrap_id (by omega) (by omega)]; exact hN
  refine ⟨by decide, ?_⟩
  conv => whnf
  rw [hw1, hw2]
  refine ⟨fun h => ?_, fun h => ?_⟩ <;> conv => whnf
  · have hi : i < N := by omega
    refine ⟨rfl, by decide, by decide, by decide, by decide, by decide, fun id hid1 => ?_⟩
    have hd := done_fresh (n := 250) t hO hid1 (by decide)
    rw [← e250] at hd
    conv => whnf
    refine hd.mono fun r s2 h => ?_
    obtain ⟨rfl, M, x2, y2, hO2, t2, c2⟩ := h
    conv => whnf
    exact ⟨(i + 1, M, x2, y2, s2), .mk ⟨congrArg (fun x => some (vI .i64 x)) (wrap_nat (n := 139) (by omega) (by decide)), rfl, rfl, rfl, rfl, trivial⟩ (.refl _), ⟨hO2, hi, t2, hF.next c2⟩, by dsimp only; omega⟩
  refine (hdone_does t hO a ha).mono fun r s2 h => ?_
  obtain ⟨rfl, x2, y2, t2, c2⟩ := h
  have hO2 := doneH_ok hO a.op (atH Ls a) a.data
  generalize doneH Ls a.op (atH Ls a) a.data = M at t2 hO2
  conv => whnf
  refine (like_does t2 hO2).go ?_
  conv => whnf
  refine hworks_is.call ?_
  conv => whnf
  exact Fin.old rfl (hF.next c2).1
theorem heapFills_law (m : Int) (a : HAct) (hm : (Lit.int .u8 m).wf = true) (ha : wfHAct a) : Is Try.prog 8 [.c (.v (.int .u8 m)), .g (eHA a)] (vB true) := by
  simp [Lit.wf, IntKind.min, IntKind.max, IntKind.bits, IntKind.signed] at hm
  exact heapFills_law0 m (by omega) (by omega) a
end Go.Proofs.Ytfkkajibaeppbaa.D
