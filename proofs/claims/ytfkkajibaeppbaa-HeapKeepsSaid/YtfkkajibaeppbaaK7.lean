/- Words and contracts: a plain machine over the model, and what the functions that a law reaches come to, each for every input that its theorem names. -/
import Derived.Test.YtfkkajibaeppbaaK6
namespace Go.Proofs.Ytfkkajibaeppbaa.D
set_option linter.unusedVariables false
set_option linter.unusedSimpArgs false
open Go Go.Proofs.Ytfkkajibaeppbaa.D.Pm
set_option maxRecDepth 4000
def plT (T : List It) (of : Bool) (p s : Int) : Int × Int :=
  if of = false then (p, s) else match T[((p.tmod T.length + T.length).tmod T.length).toNat]? with
    | some x => (x.1, x.2.1)
    | none => (p, s)
theorem tmod_bd (p : Int) {n : Nat} (h : 0 < n) : -(n : Int) < p.tmod n ∧ p.tmod n < n := by
  have hn : (0 : Int) < n := by omega
  refine ⟨?_, Int.tmod_lt_of_pos p hn⟩
  by_cases hp : 0 ≤ p
  · have := Int.tmod_nonneg (n : Int) hp; omega
  · have h1 := Int.tmod_lt_of_pos (-p) hn
    rw [Int.neg_tmod] at h1
    omega
theorem place_does {st : Sto} {hid : Nat} {Ls : Pgs} {x : AC} (hH : RAt st hid Ls x) (hO : OkH Ls) (a : HAct) : Does Try.prog 31 [.c (.ptr hid 0), .g (eHA a)] st fun r s => r = .g (ridI (plT (itH 0 Ls) a.of a.page a.slot).1 (plT (itH 0 Ls) a.of a.page a.slot).2) ∧ s = st := by
  have hall := fun {s : Sto} (h : RAt s hid Ls x) => rall_does h hO
  have hb := hO.its
  generalize itH 0 Ls = T at hall hb
  have hll : ((T.map itC).length : Int) = (T.length : Nat) := by rw [List.length_map]
  obtain ⟨op, of, page, slot, data⟩ := a
  dsimp only
  refine Does.of TP Try.func31 rfl rfl (Nat.le_of_ble_eq_true rfl) (Pw.of TP [1] ?_)
  conv => whnf
  intro id4 h4
  conv => whnf
  refine Pw.gen fun S eS => ?_
  have eS : S = upd st id4 (.bx [.v (.int .i64 0), .v (.int .i64 0)]) := eS
  have hle : Le st S := by rw [eS]; exact .up (.refl _) h4
  have h4S : S id4 = some (.bx [.v (.int .i64 0), .v (.int .i64 0)]) := by rw [eS]; exact upd_same _ _ _
  refine Pw.of TP [] ?_
  conv => whnf
  refine (hall (hH.le hle)).go ?_
  cases of
  · conv => whnf
    (apply Exists.intro; apply And.intro; (first | ((with_reducible (repeat (refine Eq.trans (upd_ne _ ?_) ?_; (first | assumption | (apply Ne.symm; assumption))))); first | exact upd_same _ _ _ | assumption) | ((repeat (refine Eq.trans (upd_ne _ ?_) ?_; (first | assumption | (apply Ne.symm; assumption)))); first | exact upd_same _ _ _ | assumption)); refine ⟨Nat.le_of_ble_eq_true rfl, ?_⟩; conv => whnf)
    (apply Exists.intro; apply And.intro; (first | ((with_reducible (repeat (refine Eq.trans (upd_ne _ ?_) ?_; (first | assumption | (apply Ne.symm; assumption))))); first | exact upd_same _ _ _ | assumption) | ((repeat (refine Eq.trans (upd_ne _ ?_) ?_; (first | assumption | (apply Ne.symm; assumption)))); first | exact upd_same _ _ _ | assumption)); conv => whnf)
    exact Fin.same rfl (hle.up2 h4) ⟨rfl, rfl⟩
  have e1 : plT T true page slot = match T[((page.tmod T.length + T.length).tmod T.length).toNat]? with | some x => (((x.1 : Nat) : Int), ((x.2.1 : Nat) : Int)) | none => (page, slot) := rfl
  rw [e1]
  conv => whnf
  rw [hll]
  refine ⟨fun h0 => ?_, fun h0 => ?_⟩ <;> conv => whnf
  · have hT : T = [] := List.length_eq_zero_iff.1 (by omega)
    subst hT
    (apply Exists.intro; apply And.intro; (first | ((with_reducible (repeat (refine Eq.trans (upd_ne _ ?_) ?_; (first | assumption | (apply Ne.symm; assumption))))); first | exact upd_same _ _ _ | assumption) | ((repeat (refine Eq.trans (upd_ne _ ?_) ?_; (first | assumption | (apply Ne.symm; assumption)))); first | exact upd_same _ _ _ | assumption)); refine ⟨Nat.le_of_ble_eq_true rfl, ?_⟩; conv => whnf)
    (apply Exists.intro; apply And.intro; (first | ((with_reducible (repeat (refine Eq.trans (upd_ne _ ?_) ?_; (first | assumption | (apply Ne.symm; assumption))))); first | exact upd_same _ _ _ | assumption) | ((repeat (refine Eq.trans (upd_ne _ ?_) ?_; (first | assumption | (apply Ne.symm; assumption)))); first | exact upd_same _ _ _ | assumption)); conv => whnf)
    exact Fin.same rfl (hle.up2 h4) ⟨rfl, rfl⟩
  have hn : 0 < T.length := by omega
  obtain ⟨b1, b2⟩ := tmod_bd page hn
  have hw : IntKind.i64.wrap (page.tmod T.length + T.length) = page.tmod T.length + T.length := wrap_id (by omega) (by omega)
  have b3 := Int.tmod_nonneg (a := page.tmod T.length + T.length) (T.length : Int) (by omega)
  have b4 := Int.tmod_lt_of_pos (page.tmod T.length + T.length) (b := (T.length : Int)) (by omega)
  obtain ⟨j, hj⟩ : ∃ j : Nat, (page.tmod T.length + T.length).tmod T.length = (j : Int) := ⟨_, (Int.toNat_of_nonneg b3).symm⟩
  have hjl : j < T.length := by omega
  rw [hj, Int.toNat_natCast, List.getElem?_eq_getElem hjl]
  rw [hll]
  refine ⟨h0, ?_⟩
  conv => whnf
  rw [hll, hw]
  refine ⟨h0, ?_⟩
  conv => whnf
  rw [hj]
  refine ixm hjl ?_
  generalize T[j] = y
  obtain ⟨y1, y2, y3⟩ := y
  conv => whnf
  (apply Exists.intro; apply And.intro; (first | ((with_reducible (repeat (refine Eq.trans (upd_ne _ ?_) ?_; (first | assumption | (apply Ne.symm; assumption))))); first | exact upd_same _ _ _ | assumption) | ((repeat (refine Eq.trans (upd_ne _ ?_) ?_; (first | assumption | (apply Ne.symm; assumption)))); first | exact upd_same _ _ _ | assumption)); refine ⟨Nat.le_of_ble_eq_true rfl, ?_⟩; conv => whnf)
  (apply Exists.intro; apply And.intro; (first | ((with_reducible (repeat (refine Eq.trans (upd_ne _ ?_) ?_; (first | assumption | (apply Ne.symm; assumption))))); first | exact upd_same _ _ _ | assumption) | ((repeat (refine Eq.trans (upd_ne _ ?_) ?_; (first | assumption | (apply Ne.symm; assumption)))); first | exact upd_same _ _ _ | assumption)); conv => whnf)
  exact Fin.same rfl (hle.up2 h4) ⟨rfl, rfl⟩
end Go.Proofs.Ytfkkajibaeppbaa.D
namespace Go.Proofs.Ytfkkajibaeppbaa.D
set_option linter.unusedVariables false
set_option linter.unusedSimpArgs false
open Go Go.Proofs.Ytfkkajibaeppbaa.D.Pm
set_option maxRecDepth 4000
/-- both heaps -/
structure Two (s : Sto) (hid rid : Nat) (Ls : Pgs) (x y : AC) : Prop where
  mk ::
  h : HAt s hid Ls x
  r : RAt s rid Ls y
  d : ∀ i, ow hid x i → ¬ ow rid y i
def ow2 (hid rid : Nat) (x y : AC) (i : Nat) : Prop := ow hid x i ∨ ow rid y i
theorem HAt.live {s : Sto} {hid : Nat} {Ls : Pgs} {x : AC} (h : HAt s hid Ls x) {i : Nat} (hi : ow hid x i) : ∃ o, s i = some o := by
  rcases hi with rfl | ⟨l, rfl⟩
  · exact ⟨_, h.bx⟩
  · cases h.li with
    | arr _ m _ a b => exact ⟨_, b⟩
theorem RAt.live {s : Sto} {hid : Nat} {Ls : Pgs} {x : AC} (h : RAt s hid Ls x) {i : Nat} (hi : ow hid x i) : ∃ o, s i = some o := by
  rcases hi with rfl | ⟨l, rfl⟩
  · exact ⟨_, h.bx⟩
  · cases h.li with
    | arr _ m _ a b => exact ⟨_, b⟩
/-- one heap changed, then the other one -/
theorem Two.next {st s1 s2 : Sto} {hid rid : Nat} {Ls L1 : Pgs} {x y x1 y1 : AC} (t : Two st hid rid Ls x y) (h1 : HAt s1 hid L1 x1) (c1 : Chg st s1 (ow hid x) (ow hid x1)) (h2 : RAt s2 rid L1 y1) (c2 : Chg s1 s2 (ow rid y) (ow rid y1)) : Two s2 hid rid L1 x1 y1 ∧ Chg st s2 (ow2 hid rid x y) (ow2 hid rid x1 y1) := by
  have k1 := t.r.keep c1 (fun i hi hx => t.d i hx hi)
  have d1 : ∀ i, ow hid x1 i → ¬ ow rid y i := fun i hx hy => by
    obtain ⟨o, ho⟩ := t.r.live hy
    exact k1.2 i o ho hy hx
  have k2 := h1.keep c2 d1
  refine ⟨⟨k2.1, h2, fun i hx hy => ?_⟩, fun i o ho hA => ?_⟩
  · obtain ⟨o, ho⟩ := h1.live hx
    exact k2.2 i o ho hx hy
  · obtain ⟨a1, a2⟩ := c1 i o ho (fun e => hA (.inl e))
    obtain ⟨b1, b2⟩ := c2 i o a1 (fun e => hA (.inr e))
    exact ⟨b1, fun e => e.elim a2 b2⟩
theorem Two.mid {st s1 : Sto} {hid rid : Nat} {Ls L1 : Pgs} {x y x1 : AC} (t : Two st hid rid Ls x y) (c1 : Chg st s1 (ow hid x) (ow hid x1)) : RAt s1 rid Ls y := (t.r.keep c1 (fun i hi hx => t.d i hx hi)).1
def doneH (Ls : Pgs) (op : Int) (at_ : Int × Int) (d : By) : Pgs :=
  if op = 0 then (putH Ls d).1 else if op = 1 then (setH Ls at_.1 at_.2 d).1 else if op = 2 then (dropH Ls at_.1 at_.2).1 else Ls
def atH (Ls : Pgs) (a : HAct) : Int × Int := plT (itH 0 Ls) a.of a.page a.slot
theorem getH_len {Ls : Pgs} (hO : OkH Ls) {p s : Int} {d : By} (h : getH Ls p s = some d) : d.length ≤ Big := by
  obtain ⟨k, j, rfl, rfl, hk, hj, hd⟩ := getH_at h
  have := (hO.1 _ (List.getElem_mem hk)).few _ (List.getElem_mem hj)
  rw [hd] at this
  simp only [dz] at this
  unfold Big; omega
theorem hdone_does {st : Sto} {hid rid_ : Nat} {Ls : Pgs} {x y : AC} (t : Two st hid rid_ Ls x y) (hO : OkH Ls) (a : HAct) (ha : a.data.length ≤ 400) : Does Try.prog 29 [.c (.ptr hid 0), .c (.ptr rid_ 0), .g (eHA a)] st fun r s => r = vB true ∧ ∃ x' y', Two s hid rid_ (doneH Ls a.op (atH Ls a) a.data) x' y' ∧ Chg st s (ow2 hid rid_ x y) (ow2 hid rid_ x' y') := by
  have hpl := place_does t.r hO a
  have hat : plT (itH 0 Ls) a.of a.page a.slot = atH Ls a := rfl
  rw [hat] at hpl
  obtain ⟨op, of, page, slot, data⟩ := a
  dsimp only at ha hpl ⊢
  generalize atH Ls ⟨op, of, page, slot, data⟩ = at_ at hpl
  obtain ⟨p, s⟩ := at_
  dsimp only at hpl
  unfold doneH
  refine Does.of TP Try.func29 rfl rfl (Nat.le_of_ble_eq_true rfl) (Pw.of TP [] ?_)
  conv => whnf
  refine hpl.go ?_
  conv => whnf
  refine ⟨fun h0 => ?_, fun h0 => ?_⟩ <;> conv => whnf
  · rw [if_pos h0]
    refine (hput_does t.h hO (d := data) (by omega)).mono fun r s1 h => ?_
    obtain ⟨rfl, x1, h1, c1⟩ := h
    conv => whnf
    refine (hrput_does (t.mid (L1 := Ls) c1) hO (d := data) (by omega)).mono fun r s2 h => ?_
    obtain ⟨rfl, y1, h2, c2⟩ := h
    have hn := t.next h1 c1 h2 c2
    conv => whnf
    refine ⟨fun _ => ?_, fun h => absurd ⟨rfl, rfl, trivial⟩ h⟩
    conv => whnf
    refine ⟨fun _ => ?_, fun h => absurd rfl h⟩
    conv => whnf
    exact Fin.same rfl (.refl _) ⟨rfl, _, _, hn.1, hn.2⟩
  rw [if_neg h0]
  refine ⟨fun h3 => ?_, fun h3 => ?_⟩ <;> conv => whnf
  · rw [if_pos h3]
    refine (hset_does t.h hO p s (d := data) (by omega)).mono fun r s1 h => ?_
    obtain ⟨rfl, x1, h1, c1⟩ := h
    conv => whnf
    refine (hrset_does (t.mid (L1 := Ls) c1) hO p s (d := data) (by omega)).mono fun r s2 h => ?_
    obtain ⟨rfl, y1, h2, c2⟩ := h
    have hn := t.next h1 c1 h2 c2
    conv => whnf
    refine ⟨fun _ => ?_, fun h => absurd ⟨rfl, rfl, trivial⟩ h⟩
    conv => whnf
    refine ⟨fun _ => ?_, fun h => absurd rfl h⟩
    conv => whnf
    exact Fin.same rfl (.refl _) ⟨rfl, _, _, hn.1, hn.2⟩
  rw [if_neg h3]
  refine ⟨fun h4 => ?_, fun h4 => ?_⟩ <;> conv => whnf
  · rw [if_pos h4]
    refine Pw.drwC TP mixed [2, 5, 6, 7] (by kernel_rfl) ?_; conv => whnf
    refine (hdrop_does t.h hO p s).mono fun r s1 h => ?_
    obtain ⟨rfl, x1, h1, c1⟩ := h
    conv => whnf
    refine (hrdrop_does (t.mid (L1 := Ls) c1) hO p s).mono fun r s2 h => ?_
    obtain ⟨rfl, y1, h2, c2⟩ := h
    have hn := t.next h1 c1 h2 c2
    conv => whnf
    refine ⟨fun _ => ?_, fun h => absurd rfl h⟩
    conv => whnf
    exact Fin.same rfl (.refl _) ⟨rfl, _, _, hn.1, hn.2⟩
  rw [if_neg h4]
  refine (hget_does t.h hO p s).go ?_
  have hrg := hrget_does t.r p s
  have hlen := fun d => getH_len hO (p := p) (s := s) (d := d)
  generalize getH Ls p s = g at hrg hlen
  cases g with
  | none =>
    conv => whnf
    refine hrg.go ?_
    conv => whnf
    refine (same_is [] [] (by decide)).call ?_
    rw [decide_eq_true rfl]
    conv => whnf
    refine ⟨fun _ => ?_, fun h => absurd rfl h⟩
    conv => whnf
    exact Fin.same rfl (.refl _) ⟨rfl, _, _, t, Chg.refl⟩
  | some d =>
    conv => whnf
    refine hrg.go ?_
    conv => whnf
    refine (same_is d d (hlen d rfl)).call ?_
    rw [decide_eq_true rfl]
    conv => whnf
    refine ⟨fun _ => ?_, fun h => absurd rfl h⟩
    conv => whnf
    exact Fin.same rfl (.refl _) ⟨rfl, _, _, t, Chg.refl⟩
end Go.Proofs.Ytfkkajibaeppbaa.D
namespace Go.Proofs.Ytfkkajibaeppbaa.D
set_option linter.unusedVariables false
set_option linter.unusedSimpArgs false
open Go Go.Proofs.Ytfkkajibaeppbaa.D.Pm
set_option maxRecDepth 4000
theorem itL_ok {n : Nat} {L : List Sl} (hO : Ok L) {y : It} (h : y ∈ itL n L) : y.1 = n ∧ gs L y.2.1 = some y.2.2 ∧ y.2.2.length ≤ 255 := by
  obtain ⟨s, hs, rfl⟩ := List.mem_map.1 h
  obtain ⟨d, hd⟩ := slot_gs hs
  have e : itG n L s = (n, s, d) := by unfold itG; rw [hd]; rfl
  rw [e]
  refine ⟨rfl, hd, ?_⟩
  have hm : some d ∈ L := by
    unfold gs at hd
    cases hh : L[s]? with
    | none => rw [hh] at hd; cases hd
    | some a => rw [hh] at hd; cases hd; exact List.mem_of_getElem? hh
  exact hO.few _ hm
theorem itH_ok : ∀ {Ls : Pgs} {n : Nat}, (∀ L ∈ Ls, Ok L) → ∀ y ∈ itH n Ls, ∃ k, ∃ hk : k < Ls.length, y.1 = n + k ∧ gs Ls[k] y.2.1 = some y.2.2 ∧ y.2.2.length ≤ 255
  | [], n, hO, y, h => by cases h
  | L :: r, n, hO, y, h => by
    rcases List.mem_append.1 h with h | h
    · obtain ⟨h1, h2, h3⟩ := itL_ok (hO L (List.mem_cons_self ..)) h
      exact ⟨0, by simp, h1, h2, h3⟩
    · obtain ⟨k, hk, h1, h2, h3⟩ := itH_ok (Ls := r) (n := n + 1) (fun M hM => hO M (List.mem_cons_of_mem _ hM)) y h
      exact ⟨k + 1, by simpa using hk, by omega, h2, h3⟩
theorem itH_get {Ls : Pgs} (hO : OkH Ls) {y : It} (h : y ∈ itH 0 Ls) : getH Ls (y.1 : Int) (y.2.1 : Int) = some y.2.2 ∧ y.2.2.length ≤ 255 := by
  obtain ⟨k, hk, h1, h2, h3⟩ := itH_ok hO.1 y h
  rw [Nat.zero_add] at h1
  refine ⟨?_, h3⟩
  unfold getH
  rw [h1, pgH_at hk]
  dsimp only
  rw [getS_gs]
  exact h2
theorem like_does {st : Sto} {hid rid_ : Nat} {Ls : Pgs} {x y : AC} (t : Two st hid rid_ Ls x y) (hO : OkH Ls) : Does Try.prog 35 [.c (.ptr hid 0), .c (.ptr rid_ 0)] st fun r s => r = vB true ∧ s = st := by
  have h1 := hall_does t.h hO
  have h2 := rall_does t.r hO
  have h3 := hlen_does t.h hO
  have hp := hpages_does t.h hO
  have hq := rpages_does t.r hO
  have hb := hO.its
  have hx := fun y (h : y ∈ itH 0 Ls) => (itH_get hO h).2
  generalize itH 0 Ls = T at h1 h2 h3 hb hx
  have hll : ((T.map itC).length : Int) = (T.length : Nat) := by rw [List.length_map]
  have h64 := hO.2
  have hrl : (((ro pgC Ls).length : Nat) : Int) = (Ls.length : Nat) := by rw [ro_length]
  refine Does.of TP Try.func35 rfl rfl (Nat.le_of_ble_eq_true rfl) (Pw.of TP [9] ?_)
  conv => whnf
  refine h1.go ?_
  conv => whnf
  refine h2.go ?_
  conv => whnf
  refine ⟨fun h => absurd rfl h, fun _ => ?_⟩
  conv => whnf
  refine h3.go ?_
  conv => whnf
  rw [hll]
  refine ⟨fun h => absurd rfl h, fun _ => ?_⟩
  conv => whnf
  refine Pw.rng (τ := Unit) 7 T.length (by unfold Big; omega) [0, 1, 5, 6] (fun _ => []) (fun k _ => True) () rfl trivial trivial fun k _ hk hf => Pw.of TP [9] ?_
  conv => whnf
  rw [hll]
  refine ⟨fun hk1 => ?_, fun hk1 => ?_⟩ <;> conv => whnf
  · have hk1 : k < T.length := by omega
    have key : ∀ F : List AC → Prop, F (itC T[k]) → 0 ≤ (k : Int) ∧ (k : Int) < ((T.map itC).length : Nat) ∧ ∃ r, (T.map itC)[(k : Int).toNat]? = some r ∧ F r := fun F hF => ixm hk1 hF
    have hxk := hx _ (List.getElem_mem hk1)
    generalize T[k] = z at key hxk
    obtain ⟨z1, z2, z3⟩ := z
    dsimp only at hxk
    refine Pw.drw TP mixed (by kernel_rfl) ?_; conv => whnf
    refine key _ ?_
    conv => whnf
    refine key _ ?_
    conv => whnf
    refine ⟨fun h => absurd rfl h, fun _ => ?_⟩
    conv => whnf
    refine key _ ?_
    conv => whnf
    refine key _ ?_
    conv => whnf
    refine ⟨fun h => absurd rfl h, fun _ => ?_⟩
    conv => whnf
    refine key _ ?_
    conv => whnf
    refine key _ ?_
    conv => whnf
    have hs := same_is z3 z3 (by unfold Big; omega)
    rw [decide_eq_true rfl] at hs
    refine hs.draw ?_
    conv => whnf
    exact ⟨hk1, rfl, ⟨rfl, rfl, rfl, rfl, trivial⟩, (), trivial, .refl _, trivial⟩
  refine Pw.vw (env' := [(0, .c (.ptr hid 0)), (1, .c (.ptr rid_ 0))]) (st' := st) (.mk ⟨rfl, rfl, trivial⟩ (.refl _)) (Pw.of TP [] ?_)
  conv => whnf
  refine hp.go ?_
  conv => whnf
  refine hq.go ?_
  conv => whnf
  refine ⟨fun h => absurd rfl h, fun _ => ?_⟩
  conv => whnf
  refine Pw.rng (τ := Unit) 10 Ls.length (by unfold Big; omega) [8, 9] (fun _ => []) (fun k _ => True) () rfl trivial trivial fun k _ hk hf => Pw.of TP [] ?_
  conv => whnf
  rw [hrl]
  refine ⟨fun hk1 => ?_, fun hk1 => ?_⟩ <;> conv => whnf
  · have hk1 : k < Ls.length := by omega
    have key : ∀ F : List AC → Prop, F [pgC Ls[k]] → 0 ≤ (k : Int) ∧ (k : Int) < ((ro pgC Ls).length : Nat) ∧ ∃ r, (ro pgC Ls)[(k : Int).toNat]? = some r ∧ F r := fun F hF => ixm (f := fun L => [pgC L]) hk1 hF
    refine Pw.drw TP mixed (by kernel_rfl) ?_; conv => whnf
    refine key _ ?_
    conv => whnf
    refine key _ ?_
    conv => whnf
    have hs := same_is (pg Ls[k]) (pg Ls[k]) (by rw [pg_length (hO.1 _ (List.getElem_mem hk1)).fit]; decide)
    rw [decide_eq_true rfl] at hs
    refine hs.draw ?_
    conv => whnf
    exact ⟨hk1, rfl, ⟨rfl, rfl, trivial⟩, (), trivial, .refl _, trivial⟩
  · exact Fin.pure
end Go.Proofs.Ytfkkajibaeppbaa.D
