/- Words and contracts: a plain machine over the model, and what the functions that a law reaches come to, each for every input that its theorem names. -/
import Derived.Test.YtbmgenifdlgbmaaC3
namespace Go.Proofs.Ytbmgenifdlgbmaa.D
set_option linter.unusedVariables false
set_option linter.unusedSimpArgs false
open Go Go.Proofs.Ytbmgenifdlgbmaa.D.Pm
set_option maxRecDepth 4000
abbrev zV : TI := ⟨.st [(0, 3), (1, 3), (2, 9)], 3, 32, [.int .i64 0, .int .i64 0, .string ⟨#[]⟩]⟩
def vFits (v : Val) (y : Int) : Bool := vright v && (decide (1 ≤ y) && (decide (y ≤ 3) && (decide (v.k = 0) || decide (v.k = y))))
theorem vfits_is (v : Val) (hs : v.s.size ≤ Big) (y : Int) : Is Try.prog 74 [.g (eV v), vI .i64 y] (vB (vFits v y)) := by
  have hr := vright_is v hs
  unfold vFits
  generalize vright v = r at hr
  refine Is.of TP Try.func74 rfl rfl (Nat.le_of_ble_eq_true rfl) fun st => Pw.of TP [] ?_
  conv => whnf
  repeat' (first | (refine ⟨fun h => ?_, fun h => ?_⟩ <;> conv => whnf) | (refine Is.callB (hr) fun b hb => ?_; cases b <;> conv => whnf) | fail)
  all_goals clear hr
  all_goals (refine Fin.old (congrArg vB ?_) (.refl _); simp [*])
theorem rvfits_is (v : Val) (hs : v.s.size ≤ Big) (y : Int) : Is Try.prog 75 [.g (eV v), vI .i64 y] (vB (vFits v y)) := by
  have hr := rvright_is v hs
  unfold vFits
  generalize vright v = r at hr
  refine Is.of TP Try.func75 rfl rfl (Nat.le_of_ble_eq_true rfl) fun st => Pw.of TP [] ?_
  conv => whnf
  repeat' (first | (refine ⟨fun h => ?_, fun h => ?_⟩ <;> conv => whnf) | (refine Is.callB (hr) fun b hb => ?_; cases b <;> conv => whnf) | fail)
  all_goals clear hr
  all_goals (refine Fin.old (congrArg vB ?_) (.refl _); simp [*])
def okVs (r : List Val) : Prop := r.length ≤ 12 ∧ ∀ v ∈ r, v.s.size ≤ 100
def fitAt (c : Cl) (v : Val) : Bool := vFits v c.typ
def nullAt (c : Cl) (v : Val) : Bool := c.nn && decide (v.k = 0)
def fits2 (p : Cl → Val → Bool) (t : Tbl) (r : List Val) (k : Nat) : Bool := if h : k < t.cols.length ∧ k < r.length then p t.cols[k] r[k] else false
def fitsT (t : Tbl) (r : List Val) : Nat :=
  if r.length ≠ t.cols.length then 37 else if (List.range t.cols.length).any (fun k => !fits2 fitAt t r k) = true then 11 else if (List.range t.cols.length).any (fun k => fits2 nullAt t r k) = true then 30 else 0
theorem any_lt {p : Nat → Bool} {n k : Nat} (h : k < n) (hp : p k = true) : (List.range n).any p = true := List.any_eq_true.2 ⟨k, List.mem_range.2 h, hp⟩
theorem any_no {p : Nat → Bool} {n : Nat} (h : ∀ k, k < n → p k = false) : (List.range n).any p = false := List.any_eq_false.2 fun k hk => by simp [h k (List.mem_range.1 hk)]
theorem tfits_is (t : Tbl) (ok : okT t) (r : List Val) (okr : okVs r) : Is Try.prog 32 [.g (eT t), .c (.sl 3 (r.map eV))] (vI .i64 (fitsT t r : Nat)) := by
  have hl1 := ok.2.2.1.1
  have el1 : (t.cols.map eCl).length = t.cols.length := List.length_map ..
  have el2 : (r.map eV).length = r.length := List.length_map ..
  refine Is.of TP Try.func32 rfl rfl (Nat.le_of_ble_eq_true rfl) fun st => Pw.of TP [] ?_
  conv => whnf
  refine ⟨fun h => ?_, fun h => ?_⟩ <;> rw [el1, el2] at h <;> conv => whnf
  · exact Fin.old (congrArg (vI .i64) (by rw [fitsT, if_pos (by omega)]; rfl)) (.refl _)
  have hlen : r.length = t.cols.length := by omega
  have e0 : fitsT t r = if (List.range t.cols.length).any (fun k => !fits2 fitAt t r k) = true then 11 else if (List.range t.cols.length).any (fun k => fits2 nullAt t r k) = true then 30 else 0 := by rw [fitsT, if_neg (by omega)]
  rw [e0]
  clear e0 h
  refine Pw.rng (τ := Unit) 18 t.cols.length (big12 hl1) [1, 2, 16, 17] (fun _ => []) (fun i _ => ∀ k, k < i → fits2 fitAt t r k = true) () rfl ⟨⟩ (fun k hk => absurd hk (Nat.not_lt_zero k)) fun i _ hi hx => Pw.of TP [] ?_
  conv => whnf
  refine ⟨fun h => ?_, fun h => ?_⟩ <;> conv => whnf
  · have hi' := lt_map ‹_›
    have hi2 : i < r.length := by omega
    have k1 := fun F => ixm (f := eV) (F := F) hi2
    refine ixm hi' ?_
    have hv := okr.2 _ (List.getElem_mem hi2)
    have hf : fits2 fitAt t r i = vFits r[i] t.cols[i].typ := by rw [fits2, dif_pos ⟨hi', hi2⟩]; rfl
    have hs : fits2 fitAt t r i = true → ∀ k, k < i + 1 → fits2 fitAt t r k = true := fun h k hk => by
      by_cases hki : k = i
      · subst hki; exact h
      · exact hx k (by omega)
    have ha : fits2 fitAt t r i = false → (List.range t.cols.length).any (fun k => !fits2 fitAt t r k) = true := fun h => any_lt hi' (by rw [h]; rfl)
    rw [hf] at hs ha
    clear hf hx
    generalize t.cols[i] = c at hs ha ⊢
    generalize r[i] = v at hs ha hv k1
    have hh := vfits_is v (by unfold Big; omega) c.typ
    generalize vFits v c.typ = b at hs ha hh
    conv => whnf
    intro id hid
    conv => whnf
    refine ⟨_, upd_same _ _ _, Nat.le_of_ble_eq_true rfl, ?_⟩
    conv => whnf
    refine Pw.drw TP mixed (by kernel_rfl) ?_; conv => whnf
    refine k1 _ ?_
    conv => whnf
    refine ⟨_, upd_same _ _ _, ?_⟩
    conv => whnf
    refine Is.draw hh ?_
    cases b <;> conv => whnf
    · exact Fin.old (congrArg (vI .i64) (by rw [if_pos (ha rfl)]; rfl)) ((Le.upd hid).up2 hid)
    · exact ⟨hi', rfl, ⟨rfl, rfl, rfl, rfl, trivial⟩, (), trivial, (Le.upd hid).up2 hid, hs rfl⟩
  obtain rfl := nlt_map ‹_› hi
  rw [if_neg (by rw [any_no (fun k hk => by rw [hx k hk]; rfl)]; simp)]
  clear hx
  refine Pw.rng (τ := Unit) 35 t.cols.length (big12 hl1) [1, 33, 34] (fun _ => []) (fun i _ => ∀ k, k < i → fits2 nullAt t r k = false) () rfl ⟨⟩ (fun k hk => absurd hk (Nat.not_lt_zero k)) fun i _ hi hx => Pw.of TP [] ?_
  conv => whnf
  refine ⟨fun h => ?_, fun h => ?_⟩ <;> conv => whnf
  · have hi' := lt_map ‹_›
    have hi2 : i < r.length := by omega
    have k1 := fun F => ixm (f := eV) (F := F) hi2
    refine ixm hi' ?_
    have hf : fits2 nullAt t r i = (t.cols[i].nn && decide (r[i].k = 0)) := by rw [fits2, dif_pos ⟨hi', hi2⟩]; rfl
    have hs : fits2 nullAt t r i = false → ∀ k, k < i + 1 → fits2 nullAt t r k = false := fun h k hk => by
      by_cases hki : k = i
      · subst hki; exact h
      · exact hx k (by omega)
    have ha : fits2 nullAt t r i = true → (List.range t.cols.length).any (fun k => fits2 nullAt t r k) = true := fun h => any_lt hi' h
    rw [hf] at hs ha
    clear hf hx
    generalize t.cols[i] = c at hs ha ⊢
    generalize r[i] = v at hs ha k1
    obtain ⟨nm, ty, nn⟩ := c
    simp only at hs ha
    conv => whnf
    intro id hid
    conv => whnf
    refine ⟨_, upd_same _ _ _, Nat.le_of_ble_eq_true rfl, ?_⟩
    conv => whnf
    refine ⟨_, upd_same _ _ _, ?_⟩
    cases nn <;> conv => whnf
    · exact ⟨hi', rfl, ⟨rfl, rfl, rfl, trivial⟩, (), trivial, (Le.upd hid).up2 hid, hs rfl⟩
    refine k1 _ ?_
    conv => whnf
    refine ⟨fun (h : v.k = 0) => ?_, fun (h : ¬ v.k = 0) => ?_⟩ <;> conv => whnf
    · exact Fin.old (congrArg (vI .i64) (by rw [if_pos (ha (by rw [decide_eq_true h]; rfl))]; rfl)) ((Le.upd hid).up2 hid)
    · exact ⟨hi', rfl, ⟨rfl, rfl, rfl, trivial⟩, (), trivial, (Le.upd hid).up2 hid, hs (by rw [decide_eq_false h]; rfl)⟩
  obtain rfl := nlt_map ‹_› hi
  exact Fin.old (congrArg (vI .i64) (by rw [if_neg (by rw [any_no hx]; simp)]; rfl)) (.refl _)
theorem rfits14_is (t : Tbl) (ok : okT t) (r : List Val) (okr : okVs r) : Is Try.prog 33 [.g (eT t), .c (.sl 3 (r.map eV))] (vI .i64 (fitsT t r : Nat)) := by
  have hl1 := ok.2.2.1.1
  have el1 : (t.cols.map eCl).length = t.cols.length := List.length_map ..
  have el2 : (r.map eV).length = r.length := List.length_map ..
  refine Is.of TP Try.func33 rfl rfl (Nat.le_of_ble_eq_true rfl) fun st => Pw.of TP [] ?_
  conv => whnf
  refine ⟨fun h => ?_, fun h => ?_⟩ <;> rw [el1, el2] at h <;> conv => whnf
  · exact Fin.old (congrArg (vI .i64) (by rw [fitsT, if_pos (by omega)]; rfl)) (.refl _)
  have hlen : r.length = t.cols.length := by omega
  have e0 : fitsT t r = if (List.range t.cols.length).any (fun k => !fits2 fitAt t r k) = true then 11 else if (List.range t.cols.length).any (fun k => fits2 nullAt t r k) = true then 30 else 0 := by rw [fitsT, if_neg (by omega)]
  rw [e0]
  clear e0 h
  refine Pw.rng (τ := Bool) 6 r.length (big12 okr.1) [1, 2] (fun b => [(5, vB b)]) (fun i b => (∀ k, k < i → fits2 fitAt t r k = true) ∧ b = (List.range i).any (fun k => fits2 nullAt t r k)) false rfl ⟨rfl, trivial⟩ ⟨fun k hk => absurd hk (Nat.not_lt_zero k), rfl⟩ fun i b hi hx => Pw.of TP [] ?_
  obtain ⟨hx, hb⟩ := hx
  conv => whnf
  refine ⟨fun h => ?_, fun h => ?_⟩ <;> conv => whnf
  · have hi2 := lt_map ‹_›
    have hi' : i < t.cols.length := by omega
    have k1 := fun F => ixm (f := eV) (F := F) hi2
    have k2 := fun F => ixm (f := eCl) (F := F) hi'
    have hv := okr.2 _ (List.getElem_mem hi2)
    have hf : fits2 fitAt t r i = vFits r[i] t.cols[i].typ := by rw [fits2, dif_pos ⟨hi', hi2⟩]; rfl
    have hg : fits2 nullAt t r i = (t.cols[i].nn && decide (r[i].k = 0)) := by rw [fits2, dif_pos ⟨hi', hi2⟩]; rfl
    have hs : fits2 fitAt t r i = true → ∀ k, k < i + 1 → fits2 fitAt t r k = true := fun h k hk => by
      by_cases hki : k = i
      · subst hki; exact h
      · exact hx k (by omega)
    have ha : fits2 fitAt t r i = false → (List.range t.cols.length).any (fun k => !fits2 fitAt t r k) = true := fun h => any_lt hi' (by rw [h]; rfl)
    have hbs : (List.range (i + 1)).any (fun k => fits2 nullAt t r k) = (b || fits2 nullAt t r i) := by rw [List.range_succ, List.any_append, ← hb]; simp
    rw [hf] at hs ha
    rw [hg] at hbs
    clear hf hx hb hg
    generalize t.cols[i] = c at hs ha hbs k2 ⊢
    generalize r[i] = v at hs ha hv k1 hbs
    obtain ⟨nm, ty, nn⟩ := c
    simp only at hs ha hbs
    have hh := rvfits_is v (by unfold Big; omega) ty
    generalize vFits v ty = q at hs ha hh
    refine Pw.drw TP mixed (by kernel_rfl) ?_; conv => whnf
    refine k1 _ ?_
    conv => whnf
    refine k2 _ ?_
    conv => whnf
    refine Is.draw hh ?_
    cases q <;> conv => whnf
    · exact Fin.old (congrArg (vI .i64) (by rw [if_pos (ha rfl)]; rfl)) (.refl _)
    cases b <;> conv => whnf
    · refine k2 _ ?_
      cases nn <;> conv => whnf
      · exact ⟨hi2, rfl, ⟨rfl, rfl, trivial⟩, false, ⟨rfl, trivial⟩, .refl _, hs rfl, by rw [hbs]; rfl⟩
      refine k1 _ ?_
      conv => whnf
      refine ⟨fun (h : v.k = 0) => ?_, fun (h : ¬ v.k = 0) => ?_⟩ <;> conv => whnf
      · exact ⟨hi2, rfl, ⟨rfl, rfl, trivial⟩, true, ⟨rfl, trivial⟩, .refl _, hs rfl, by rw [hbs, decide_eq_true h]; rfl⟩
      · exact ⟨hi2, rfl, ⟨rfl, rfl, trivial⟩, false, ⟨rfl, trivial⟩, .refl _, hs rfl, by rw [hbs, decide_eq_false h]; rfl⟩
    · exact ⟨hi2, rfl, ⟨rfl, rfl, trivial⟩, true, ⟨rfl, trivial⟩, .refl _, hs rfl, by rw [hbs]; rfl⟩
  obtain rfl := nlt_map ‹_› hi
  rw [if_neg (by rw [any_no (fun k hk => by rw [hx k (by omega)]; rfl)]; simp)]
  rw [hlen] at hb
  rw [← hb]
  clear hx hb
  cases b <;> conv => whnf
  all_goals exact Fin.old rfl (.refl _)
end Go.Proofs.Ytbmgenifdlgbmaa.D
namespace Go.Proofs.Ytbmgenifdlgbmaa.D
set_option linter.unusedVariables false
set_option linter.unusedSimpArgs false
open Go Go.Proofs.Ytbmgenifdlgbmaa.D.Pm
set_option maxRecDepth 4000
theorem eV_row (l : List Val) : ∀ r ∈ l.map eV, r.length = 3 := fun r hr => by obtain ⟨x, _, rfl⟩ := List.mem_map.1 hr; rfl
theorem vsame_is (l : List Val) (hl : l.length ≤ Big) : Is Try.prog 34 [.c (.sl 3 (l.map eV)), .c (.sl 3 (l.map eV))] (vB true) := by
  refine Is.of TP Try.func34 rfl rfl (Nat.le_of_ble_eq_true rfl) fun st => Pw.of TP [] ?_
  conv => whnf
  refine ⟨fun h => absurd rfl h, fun _ => ?_⟩
  conv => whnf
  refine Pw.rng (τ := Unit) 5 l.length hl [0, 1] (fun _ => []) (fun i _ => True) () rfl ⟨⟩ trivial fun i _ hi hx => Pw.of TP [] ?_
  conv => whnf
  refine ⟨fun h => ?_, fun h => ?_⟩ <;> conv => whnf
  · have hi' := lt_map ‹_›
    have k2 := fun F => ixm (f := eV) (F := F) hi'
    generalize l[i] = c at k2 ⊢
    refine Pw.drw TP mixed (by kernel_rfl) ?_; conv => whnf
    refine k2 _ ?_
    conv => whnf
    refine k2 _ ?_
    conv => whnf
    refine ⟨fun h => absurd ⟨rfl, rfl, rfl, trivial⟩ h, fun _ => ?_⟩
    conv => whnf
    exact ⟨hi', rfl, ⟨rfl, rfl, trivial⟩, (), trivial, .refl _, trivial⟩
  exact Fin.old rfl (.refl _)
def v0 : Val := ⟨0, 0, ⟨#[]⟩⟩
def keyAt (r : List Val) (p : Int) : Val := if h : 0 ≤ p ∧ p.toNat < r.length then r[p.toNat]'h.2 else v0
def keyT (r : List Val) (l : List Int) : List Val := l.map (keyAt r)
def keyRows (r : List Val) (l : List Int) (i : Nat) : List (List AC) := (keyT r (l.take i)).map eV ++ List.replicate (l.length - i) (eV v0)
theorem keyRows_len (r : List Val) (l : List Int) {i : Nat} (h : i ≤ l.length) : (keyRows r l i).length = l.length := by
  rw [keyRows, keyT, List.length_append, List.length_map, List.length_map, List.length_replicate, List.length_take]; omega
theorem keyRows_row (r : List Val) (l : List Int) (i : Nat) : ∀ x ∈ keyRows r l i, x.length = 3 := fun x hx => by
  rcases List.mem_append.1 hx with h | h
  · exact eV_row _ x h
  · rw [(List.mem_replicate.1 h).2]; rfl
theorem keyRows_at (r : List Val) (l : List Int) {i : Nat} (h : i < l.length) : (keyRows r l i)[i]? = some (eV v0) := by
  rw [keyRows, keyT, List.getElem?_append_right (by simp; omega), List.getElem?_replicate, if_pos]
  simp; omega
theorem keyRows_set (r : List Val) (l : List Int) {i : Nat} (h : i < l.length) : (keyRows r l i).set i (eV (keyAt r l[i])) = keyRows r l (i + 1) := by
  have e1 : ((keyT r (l.take i)).map eV).length = i := by rw [keyT, List.length_map, List.length_map, List.length_take]; omega
  have e2 : l.length - i = (l.length - (i + 1)) + 1 := by omega
  rw [keyRows, keyRows, List.set_append_right _ _ (by omega), e1, Nat.sub_self, e2, List.replicate_succ, List.set_cons_zero, keyT, keyT, map_take2 h, List.map_append, List.append_assoc]; rfl
theorem keyRows_keep (r : List Val) (l : List Int) {i : Nat} (h : i < l.length) (hk : keyAt r l[i] = v0) : keyRows r l i = keyRows r l (i + 1) := by
  rw [← keyRows_set r l h, hk]
  apply List.ext_getElem?
  intro j
  rw [List.getElem?_set]
  split
  · rename_i hj; subst hj; rw [keyRows_at r l h, if_pos (by rw [keyRows_len r l (by omega)]; exact h)]
  · rfl
theorem keyRows_end (r : List Val) (l : List Int) : keyRows r l l.length = (keyT r l).map eV := by
  rw [keyRows, List.take_length, Nat.sub_self]; simp
theorem tkey_is (r : List Val) (l : List Int) (hr : r.length ≤ 12) (hl : l.length ≤ 12) : Is Try.prog 35 [.c (.sl 3 (r.map eV)), .c (.sl 1 (l.map iC))] (.c (.sl 3 ((keyT r l).map eV))) := by
  have el : (l.map iC).length = l.length := List.length_map ..
  have el2 : (r.map eV).length = r.length := List.length_map ..
  refine Is.of TP Try.func35 rfl rfl (Nat.le_of_ble_eq_true rfl) fun st => Pw.of TP [] ?_
  conv => whnf
  refine ⟨rfl, by omega, by rw [el]; omega, by rw [el]; show l.length ≤ maxLen; unfold maxLen; omega, by rw [el]; show (32 : Int) * l.length ≤ _; omega, by decide, fun id hid => ?_⟩
  conv => whnf
  have h0 : upd st id (.ar 3 (List.replicate (l.map iC).length (eV v0))) id = some (.ar 3 (keyRows r l 0)) := by
    rw [upd_same, keyRows, el]; rfl
  refine Pw.rngS (τ := Sto) 13 l.length (big12 hl) [0, 11, 12] (fun _ y => [(5, .c (.arr id 0 l.length))]) (fun _ y => y) (fun i y => Le st y ∧ y id = some (.ar 3 (keyRows r l i))) _ rfl ⟨by show some (AV.c (.arr id 0 (l.map iC).length)) = _; rw [el], trivial⟩ (.refl _) ⟨.upd hid, h0⟩ fun i y hi hg => Pw.of TP [] ?_
  obtain ⟨hle, hy⟩ := hg
  clear h0
  conv => whnf
  refine ⟨fun h => ?_, fun h => ?_⟩ <;> conv => whnf
  · have hi' := lt_map ‹_›
    refine ixm hi' ?_
    have hs := keyRows_set r l hi'
    have hk := keyRows_keep r l hi'
    have ha := keyRows_at r l hi'
    generalize l[i] = p at hs hk ⊢
    conv => whnf
    refine ⟨fun (q1 : 0 ≤ p) => ?_, fun (q1 : ¬ 0 ≤ p) => ?_⟩ <;> conv => whnf
    · refine ⟨fun (q2 : p < _) => ?_, fun (q2 : ¬ p < _) => ?_⟩ <;> rw [el2] at q2 <;> conv => whnf
      · have hp : p.toNat < r.length := by omega
        refine ⟨q1, by rw [el2]; exact q2, eV r[p.toNat], by rw [List.getElem?_map, List.getElem?_eq_getElem hp]; rfl, ?_⟩
        have hka : keyAt r p = r[p.toNat] := by rw [keyAt, dif_pos ⟨q1, hp⟩]
        rw [hka] at hs
        generalize r[p.toNat] = v at hs
        conv => whnf
        refine ⟨by omega, by omega, ⟨_, hy⟩, ?_⟩
        conv => whnf
        refine ⟨3, _, eV v0, hy, by rw [← ha]; congr 1; omega, Nat.le_of_ble_eq_true rfl, ?_⟩
        conv => whnf
        refine ⟨hi', rfl, ⟨rfl, rfl, rfl, trivial⟩, upd y id (.ar 3 (keyRows r l (i + 1))), ⟨rfl, trivial⟩, ?_, hle.up2 hid, upd_same _ _ _⟩
        have e : (0 + (i : Int).toNat) = i := by omega
        have e2 : keyRows r l (i + 1) = (keyRows r l i).set (0 + (i : Int).toNat) (putAt (eV v0) 0 (eV v)) := by rw [e, ← hs]; rfl
        rw [e2]
        exact .refl _
      · have hka : keyAt r p = v0 := by rw [keyAt, dif_neg (by omega)]
        exact ⟨hi', rfl, ⟨rfl, rfl, rfl, trivial⟩, y, ⟨rfl, trivial⟩, .refl _, hle, by rw [← hk hka]; exact hy⟩
    · have hka : keyAt r p = v0 := by rw [keyAt, dif_neg (by omega)]
      exact ⟨hi', rfl, ⟨rfl, rfl, rfl, trivial⟩, y, ⟨rfl, trivial⟩, .refl _, hle, by rw [← hk hka]; exact hy⟩
  obtain rfl := nlt_map ‹_› hi
  have hlen := keyRows_len r l (Nat.le_refl _)
  refine Fin.grow (st0 := st) (rows := keyRows r l l.length) ⟨hle, .inr ⟨id, by rw [hlen], hy, hid⟩⟩ (keyRows_row _ _ _) ⟨by rw [keyRows_end], rfl⟩
theorem rkey_is (r : List Val) (l : List Int) (hr : r.length ≤ 12) (hl : l.length ≤ 12) : Is Try.prog 36 [.c (.sl 3 (r.map eV)), .c (.sl 1 (l.map iC))] (.c (.sl 3 ((keyT r l).map eV))) := by
  have el2 : (r.map eV).length = r.length := List.length_map ..
  refine Is.of TP Try.func36 rfl rfl (Nat.le_of_ble_eq_true rfl) fun st => Pw.of TP [] ?_
  conv => whnf
  refine Pw.rngS (τ := AC × Sto) 6 l.length (big12 hl) [0, 1] (fun _ y => [(5, .c y.1)]) (fun _ y => y.2) (fun i y => Grow st 3 y.2 y.1 ((keyT r (l.take i)).map eV)) (.v (.slice none 0 0), st) rfl ⟨rfl, trivial⟩ (.refl _) (.nil (.refl _)) fun i y hi hg => Pw.of TP [] ?_
  obtain ⟨a, s⟩ := y
  simp only at hg ⊢
  conv => whnf
  have hkl : (keyT r (l.take i)).length = i := by rw [keyT, List.length_map, List.length_take]; omega
  refine ⟨fun h => ?_, fun h => ?_⟩ <;> conv => whnf
  · have hi' := lt_map ‹_›
    have k2 := fun F => ixm (f := iC) (F := F) hi'
    refine k2 _ ?_
    have hs : keyT r (l.take (i + 1)) = keyT r (l.take i) ++ [keyAt r l[i]] := map_take2 hi'
    generalize l[i] = p at hs k2 ⊢
    conv => whnf
    refine ⟨fun (q1 : 0 ≤ p) => ?_, fun (q1 : ¬ 0 ≤ p) => ?_⟩ <;> conv => whnf
    · refine k2 _ ?_
      conv => whnf
      refine ⟨fun (q2 : p < _) => ?_, fun (q2 : ¬ p < _) => ?_⟩ <;> rw [el2] at q2 <;> conv => whnf
      · have hp : p.toNat < r.length := by omega
        have hka : keyAt r p = r[p.toNat] := by rw [keyAt, dif_pos ⟨q1, hp⟩]
        refine k2 _ ?_
        conv => whnf
        refine ⟨q1, by rw [el2]; exact q2, eV r[p.toNat], by rw [List.getElem?_map, List.getElem?_eq_getElem hp]; rfl, ?_⟩
        rw [hka] at hs
        generalize r[p.toNat] = v at hs
        conv => whnf
        refine Grow.app (z := zV) hg (by simp only [List.length_map, List.length_append, List.length_cons, List.length_nil, List.length_set, List.length_replicate, List.length_take]; unfold maxLen; omega) (by simp only [List.length_map, List.length_append, List.length_cons, List.length_nil, List.length_set, List.length_replicate, List.length_take]; omega) fun a' st' hg' hk => ?_
        conv => whnf
        exact ⟨hi', rfl, ⟨rfl, rfl, trivial⟩, (a', st'), ⟨rfl, trivial⟩, .refl _, by rw [hs, List.map_append]; exact hg'⟩
      · have hka : keyAt r p = v0 := by rw [keyAt, dif_neg (by omega)]
        rw [hka] at hs
        refine Grow.app (z := zV) hg (by simp only [List.length_map, List.length_append, List.length_cons, List.length_nil, List.length_set, List.length_replicate, List.length_take]; unfold maxLen; omega) (by simp only [List.length_map, List.length_append, List.length_cons, List.length_nil, List.length_set, List.length_replicate, List.length_take]; omega) fun a' st' hg' hk => ?_
        conv => whnf
        exact ⟨hi', rfl, ⟨rfl, rfl, trivial⟩, (a', st'), ⟨rfl, trivial⟩, .refl _, by rw [hs, List.map_append]; exact hg'⟩
    · have hka : keyAt r p = v0 := by rw [keyAt, dif_neg (by omega)]
      rw [hka] at hs
      refine Grow.app (z := zV) hg (by simp only [List.length_map, List.length_append, List.length_cons, List.length_nil, List.length_set, List.length_replicate, List.length_take]; unfold maxLen; omega) (by simp only [List.length_map, List.length_append, List.length_cons, List.length_nil, List.length_set, List.length_replicate, List.length_take]; omega) fun a' st' hg' hk => ?_
      conv => whnf
      exact ⟨hi', rfl, ⟨rfl, rfl, trivial⟩, (a', st'), ⟨rfl, trivial⟩, .refl _, by rw [hs, List.map_append]; exact hg'⟩
  obtain rfl := nlt_map ‹_› hi
  rw [List.take_length] at hg
  exact Fin.grow hg (eV_row _) ⟨rfl, rfl⟩
def isNullV (v : Val) : Bool := decide (v.k = 0)
theorem nulls1_is (v : Val) : Is Try.prog 77 [.g (eV v)] (vB (isNullV v)) := by
  refine Is.of TP Try.func77 rfl rfl (Nat.le_of_ble_eq_true rfl) fun st => Pw.of TP [] ?_
  conv => whnf
  repeat' (first | (refine ⟨fun h => ?_, fun h => ?_⟩ <;> conv => whnf) | fail)
  all_goals (refine Fin.old (congrArg vB ?_) (.refl _); simp [isNullV, *])
theorem idxV_is (l : List Val) (hl : l.length ≤ Big) (g : Nat) (caps : List AC) (p : Val → Bool) (hf : ∀ e ∈ l, Is Try.prog g (.g (eV e) :: caps.map .c) (vB (p e))) :
    Is Try.prog 120 [.c (.sl 3 (l.map eV)), .c (.fn g caps)] (vI .i64 (idx p l)) := by
  refine Is.of TP Try.func120 rfl rfl (Nat.le_of_ble_eq_true rfl) fun st => Pw.of TP [] ?_
  conv => whnf
  refine Pw.rng (τ := Unit) 8 l.length hl [0, 1, 7] (fun _ => []) (fun i _ => ∀ x ∈ l.take i, p x = false) () rfl trivial (by simp) fun i _ hi hx => Pw.of TP [] ?_
  conv => whnf
  refine ⟨fun h => ?_, fun h => ?_⟩ <;> conv => whnf
  · have hi' := lt_map ‹_›
    refine ixm hi' ?_
    have hm := hf l[i] (List.getElem_mem hi')
    have hs := take_snoc (Q := fun x => p x = false) hi' hx
    have ha := idx_at hi' hx
    generalize l[i] = e at hm hs ha ⊢
    conv => whnf
    refine Is.callB hm fun b hb => ?_
    cases b <;> conv => whnf
    · exact ⟨hi', rfl, ⟨rfl, rfl, rfl, trivial⟩, (), trivial, .refl _, hs hb⟩
    · exact Fin.old (congrArg (vI .i64) (ha hb).symm) (.refl _)
  · obtain rfl := nlt_map ‹_› hi
    exact Fin.old (congrArg (vI .i64) (idx_no (by simpa using hx)).symm) (.refl _)
theorem anyV_is (l : List Val) (hl : l.length ≤ Big) (g : Nat) (caps : List AC) (p : Val → Bool) (hf : ∀ e ∈ l, Is Try.prog g (.g (eV e) :: caps.map .c) (vB (p e))) :
    Is Try.prog 76 [.c (.sl 3 (l.map eV)), .c (.fn g caps)] (vB (l.any p)) := by
  refine Is.of TP Try.func76 rfl rfl (Nat.le_of_ble_eq_true rfl) fun st => Pw.of TP [] ?_
  conv => whnf
  refine Is.callI (idxV_is l hl g caps p hf) fun b hb => ?_
  conv => whnf
  repeat' (first | (refine ⟨fun h => ?_, fun h => ?_⟩ <;> conv => whnf) | fail)
  · (refine Fin.old (congrArg vB ?_) (.refl _); rw [← idx_any, hb]; exact (decide_eq_true ‹_›).symm)
  · (refine Fin.old (congrArg vB ?_) (.refl _); rw [← idx_any, hb]; exact (decide_eq_false ‹_›).symm)
theorem nulls_is (l : List Val) (hl : l.length ≤ Big) : Is Try.prog 37 [.c (.sl 3 (l.map eV))] (vB (l.any isNullV)) := by
  refine Is.of TP Try.func37 rfl rfl (Nat.le_of_ble_eq_true rfl) fun st => Pw.of TP [] ?_
  conv => whnf
  refine Is.callB (anyV_is l hl _ [] isNullV fun e _ => nulls1_is e) fun b hb => ?_
  conv => whnf
  (refine Fin.old (congrArg vB ?_) (.refl _); rw [hb])
theorem rnulls_is (l : List Val) (hl : l.length ≤ Big) : Is Try.prog 38 [.c (.sl 3 (l.map eV))] (vB (l.any isNullV)) := by
  refine Is.of TP Try.func38 rfl rfl (Nat.le_of_ble_eq_true rfl) fun st => Pw.of TP [] ?_
  conv => whnf
  refine Pw.rng (τ := Unit) 3 l.length hl [0] (fun _ => []) (fun i _ => ∀ x ∈ l.take i, isNullV x = false) () rfl ⟨⟩ (by simp) fun i _ hi hx => Pw.of TP [] ?_
  conv => whnf
  refine ⟨fun h => ?_, fun h => ?_⟩ <;> conv => whnf
  · have hi' := lt_map ‹_›
    refine ixm hi' ?_
    have hs := take_snoc (Q := fun x => isNullV x = false) hi' hx
    have ha := any_at (p := isNullV) hi'
    generalize l[i] = e at hs ha ⊢
    conv => whnf
    refine ⟨fun (h : e.k = 0) => ?_, fun (h : ¬ e.k = 0) => ?_⟩ <;> conv => whnf
    · exact Fin.old (congrArg vB (ha (decide_eq_true h)).symm) (.refl _)
    · exact ⟨hi', rfl, ⟨rfl, trivial⟩, (), trivial, .refl _, hs (decide_eq_false h)⟩
  obtain rfl := nlt_map ‹_› hi
  (refine Fin.old (congrArg vB ?_) (.refl _); symm; exact List.any_eq_false.2 fun y hy => by simp [hx y (by simpa using hy)])
def wfVs (r : List Val) : Prop := r.length ≤ maxLen ∧ ∀ v ∈ r, wfV v
def wfIs (l : List Int) : Prop := l.length ≤ maxLen ∧ ∀ n ∈ l, I64 n
theorem tableFits_law (t : Tbl) (r : List Val) (l : List Int) (_ : wfT t) (_ : wfVs r) (_ : wfIs l) : Is Try.prog 7 [.g (eT t), .c (.sl 3 (r.map eV)), .c (.sl 1 (l.map iC))] (vB true) := by
  have el1 : (r.map eV).length = r.length := List.length_map ..
  have el2 : (l.map iC).length = l.length := List.length_map ..
  refine Is.of TP Try.func7 rfl rfl (Nat.le_of_ble_eq_true rfl) fun st => Pw.of TP [] ?_
  conv => whnf
  refine Is.callB (fewT_is t) fun b hb => ?_
  cases b <;> conv => whnf
  · refine works14_is.call ?_
    conv => whnf
    exact Fin.old rfl (.refl _)
  have ok := fewT_ok t hb
  refine ⟨fun h => ?_, fun h => ?_⟩ <;> rw [el1] at h <;> conv => whnf
  · refine works14_is.call ?_
    conv => whnf
    exact Fin.old rfl (.refl _)
  refine ⟨fun h2 => ?_, fun h2 => ?_⟩ <;> rw [el2] at h2 <;> conv => whnf
  · refine works14_is.call ?_
    conv => whnf
    exact Fin.old rfl (.refl _)
  have hr : r.length ≤ 12 := by omega
  have hl : l.length ≤ 12 := by omega
  refine Pw.rng (τ := Unit) 7 r.length (big12 hr) [1, 2, 3] (fun _ => []) (fun i _ => ∀ v ∈ r.take i, v.s.size ≤ 100) () rfl ⟨⟩ (by simp) fun i _ hi hx => Pw.of TP [] ?_
  conv => whnf
  refine ⟨fun h => ?_, fun h => ?_⟩ <;> conv => whnf
  · have hi' := lt_map ‹_›
    have hs := take_snoc (Q := fun v : Val => v.s.size ≤ 100) hi' hx
    refine ixm hi' ?_
    generalize r[i] = v at hs ⊢
    conv => whnf
    refine ⟨fun (h : (100 : Int) < (v.s.size : Nat)) => ?_, fun (h : ¬ (100 : Int) < (v.s.size : Nat)) => ?_⟩ <;> conv => whnf
    · refine works14_is.call ?_
      conv => whnf
      exact Fin.old rfl (.refl _)
    · exact ⟨hi', rfl, ⟨rfl, rfl, rfl, trivial⟩, (), trivial, .refl _, hs (by omega)⟩
  obtain rfl := nlt_map ‹_› hi
  rw [List.take_length] at hx
  have okr : okVs r := ⟨hr, hx⟩
  have c1 := tfits_is t ok r okr
  have c2 := rfits14_is t ok r okr
  have c3 := tkey_is r l hr hl
  have c4 := rkey_is r l hr hl
  have c5 := vsame_is (keyT r l) (by rw [keyT, List.length_map]; exact big12 hl)
  have c6 := nulls_is r (big12 hr)
  have c7 := rnulls_is r (big12 hr)
  generalize fitsT t r = n at c1 c2
  generalize keyT r l = ks at c3 c4 c5
  generalize r.any isNullV = b at c6 c7
  refine Pw.drw TP mixed (by kernel_rfl) ?_; conv => whnf
  refine Is.draw c1 ?_
  conv => whnf
  refine Is.draw c2 ?_
  conv => whnf
  refine ⟨fun _ => ?_, fun h => absurd rfl h⟩
  conv => whnf
  refine Is.draw c3 ?_
  conv => whnf
  refine Is.draw c4 ?_
  conv => whnf
  refine Is.draw c5 ?_
  conv => whnf
  refine Is.draw c6 ?_
  conv => whnf
  refine Is.draw c7 ?_
  cases b <;> conv => whnf
  all_goals refine Is.draw works14_is ?_
  all_goals conv => whnf
  all_goals exact Fin.old rfl (.refl _)
end Go.Proofs.Ytbmgenifdlgbmaa.D
