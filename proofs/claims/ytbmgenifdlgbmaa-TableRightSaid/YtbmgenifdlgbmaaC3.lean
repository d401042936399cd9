/- Words and contracts: a plain machine over the model, and what the functions that a law reaches come to, each for every input that its theorem names. -/
import Derived.Test.YtbmgenifdlgbmaaC2
namespace Go.Proofs.Ytbmgenifdlgbmaa.D
set_option linter.unusedVariables false
set_option linter.unusedSimpArgs false
open Go Go.Proofs.Ytbmgenifdlgbmaa.D.Pm
set_option maxRecDepth 4000
abbrev zI : TI := ⟨.i .i64, 1, 8, [.int .i64 0]⟩
def iC (n : Int) : List AC := [.v (.int .i64 n)]
theorem iC_row (l : List Int) : ∀ r ∈ l.map iC, r.length = 1 := fun r hr => by obtain ⟨x, _, rfl⟩ := List.mem_map.1 hr; rfl
theorem rcol14_is (t : Tbl) (ok : okT t) (s : ByteArray) : Is Try.prog 27 [.g (eT t), vS s] (vI .i64 (colT t s)) := by
  have hb := big12 ok.2.2.1.1
  refine Is.of TP Try.func27 rfl rfl (Nat.le_of_ble_eq_true rfl) fun st => Pw.of TP [] ?_
  conv => whnf
  refine Pw.rng (τ := Unit) 5 t.cols.length hb [1, 2] (fun _ => []) (fun i _ => ∀ x ∈ t.cols.take i, decide (x.name = s) = false) () rfl ⟨⟩ (by simp) fun i _ hi hx => Pw.of TP [] ?_
  conv => whnf
  refine ⟨fun h => ?_, fun h => ?_⟩ <;> conv => whnf
  · have hi' := lt_map ‹_›
    refine ixm hi' ?_
    have hs := take_snoc (Q := fun x : Cl => decide (x.name = s) = false) hi' hx
    have ha := idx_at (p := fun x : Cl => decide (x.name = s)) hi' hx
    generalize t.cols[i] = c at hs ha ⊢
    conv => whnf
    refine ⟨fun (h : c.name = s) => ?_, fun (h : ¬ c.name = s) => ?_⟩ <;> conv => whnf
    · exact Fin.old (congrArg (vI .i64) (ha (decide_eq_true h)).symm) (.refl _)
    · exact ⟨hi', rfl, ⟨rfl, rfl, trivial⟩, (), trivial, .refl _, hs (decide_eq_false h)⟩
  obtain rfl := nlt_map ‹_› hi
  exact Fin.old (congrArg (vI .i64) (idx_no (by simpa using hx)).symm) (.refl _)
/-- where columns are, or the error -/
def placesT (t : Tbl) (l : List ByteArray) : List Int × Nat := if l.all (fun s => decide (0 ≤ colT t s)) = true then (l.map (colT t), 0) else ([], 4)
def pR (x : List Int × Nat) : AV := .t [.c (.sl 1 (x.1.map iC)), vI .i64 (x.2 : Nat)]
theorem places_is (t : Tbl) (ok : okT t) (l : List ByteArray) (hl : l.length ≤ 12) : Is Try.prog 21 [.g (eT t), .c (eS l)] (pR (placesT t l)) := by
  refine Is.of TP Try.func21 rfl rfl (Nat.le_of_ble_eq_true rfl) fun st => Pw.of TP [] ?_
  conv => whnf
  refine Pw.rngS (τ := AC × Sto) 12 l.length (big12 hl) [2, 10, 11] (fun _ y => [(6, .c y.1)]) (fun _ y => y.2) (fun i y => Grow st 1 y.2 y.1 (((l.take i).map (colT t)).map iC) ∧ ∀ s ∈ l.take i, decide (0 ≤ colT t s) = true) (.v (.slice none 0 0), st) rfl ⟨rfl, trivial⟩ (.refl _) ⟨.nil (.refl _), by simp⟩ fun i y hi hg => Pw.of TP [] ?_
  obtain ⟨a, s⟩ := y
  obtain ⟨hg, hx⟩ := hg
  simp only at hg ⊢
  conv => whnf
  refine ⟨fun h => ?_, fun h => ?_⟩ <;> conv => whnf
  · have hi' := lt_map ‹_›
    refine ixm hi' ?_
    have hs := map_take2 (f := colT t) hi'
    have hs2 := take_snoc (Q := fun s => decide (0 ≤ colT t s) = true) hi' hx
    have ha := all_at (p := fun s => decide (0 ≤ colT t s)) hi'
    have hc := tcol_is t ok l[i]
    generalize l[i] = c at hs hs2 ha hc ⊢
    generalize colT t c = n at hs hs2 ha hc
    conv => whnf
    refine Is.call hc ?_
    conv => whnf
    refine ⟨fun (h : n < 0) => ?_, fun (h : ¬ n < 0) => ?_⟩ <;> conv => whnf
    · exact Fin.growL (st0 := st) (.nil hg.le) (by simp) ⟨by rw [placesT, if_neg (by rw [ha (decide_eq_false (by omega))]; simp)]; rfl, rfl⟩
    · refine Grow.app (z := zI) hg (by simp only [List.length_map, List.length_append, List.length_cons, List.length_nil, List.length_set, List.length_replicate, List.length_take]; unfold maxLen; omega) (by simp only [List.length_map, List.length_append, List.length_cons, List.length_nil, List.length_set, List.length_replicate, List.length_take]; omega) fun a' st' hg' hk => ?_
      conv => whnf
      exact ⟨hi', rfl, ⟨rfl, rfl, rfl, trivial⟩, (a', st'), ⟨rfl, trivial⟩, .refl _, by rw [hs, List.map_append]; exact hg', hs2 (decide_eq_true (by omega))⟩
  obtain rfl := nlt_map ‹_› hi
  rw [List.take_length] at hg hx
  exact Fin.growL hg (iC_row _) ⟨by rw [placesT, if_pos (all_take hx)]; rfl, rfl⟩
theorem rplaces_is (t : Tbl) (ok : okT t) (l : List ByteArray) (hl : l.length ≤ 12) : Is Try.prog 22 [.g (eT t), .c (eS l)] (pR (placesT t l)) := by
  refine Is.of TP Try.func22 rfl rfl (Nat.le_of_ble_eq_true rfl) fun st => Pw.of TP [] ?_
  conv => whnf
  refine Pw.rngS (τ := AC × Sto) 7 l.length (big12 hl) [1, 2] (fun _ y => [(6, .c y.1)]) (fun _ y => y.2) (fun i y => Grow st 1 y.2 y.1 (((l.take i).map (colT t)).map iC) ∧ ∀ s ∈ l.take i, decide (0 ≤ colT t s) = true) (.v (.slice none 0 0), st) rfl ⟨rfl, trivial⟩ (.refl _) ⟨.nil (.refl _), by simp⟩ fun i y hi hg => Pw.of TP [] ?_
  obtain ⟨a, s⟩ := y
  obtain ⟨hg, hx⟩ := hg
  simp only at hg ⊢
  conv => whnf
  refine ⟨fun h => ?_, fun h => ?_⟩ <;> conv => whnf
  · have hi' := lt_map ‹_›
    have k2 := fun F => ixm (f := strC) (F := F) hi'
    have hs := map_take2 (f := colT t) hi'
    have hs2 := take_snoc (Q := fun s => decide (0 ≤ colT t s) = true) hi' hx
    have ha := all_at (p := fun s => decide (0 ≤ colT t s)) hi'
    have hc := rcol14_is t ok l[i]
    generalize l[i] = c at hs hs2 ha hc k2 ⊢
    generalize colT t c = n at hs hs2 ha hc
    refine Pw.drw TP mixed (by kernel_rfl) ?_; conv => whnf
    refine k2 _ ?_
    conv => whnf
    refine Is.draw hc ?_
    conv => whnf
    refine ⟨fun (h : n < 0) => ?_, fun (h : ¬ n < 0) => ?_⟩ <;> conv => whnf
    · exact Fin.growL (st0 := st) (.nil hg.le) (by simp) ⟨by rw [placesT, if_neg (by rw [ha (decide_eq_false (by omega))]; simp)]; rfl, rfl⟩
    · refine Grow.app (z := zI) hg (by simp only [List.length_map, List.length_append, List.length_cons, List.length_nil, List.length_set, List.length_replicate, List.length_take]; unfold maxLen; omega) (by simp only [List.length_map, List.length_append, List.length_cons, List.length_nil, List.length_set, List.length_replicate, List.length_take]; omega) fun a' st' hg' hk => ?_
      conv => whnf
      exact ⟨hi', rfl, ⟨rfl, rfl, trivial⟩, (a', st'), ⟨rfl, trivial⟩, .refl _, by rw [hs, List.map_append]; exact hg', hs2 (decide_eq_true (by omega))⟩
  obtain rfl := nlt_map ‹_› hi
  rw [List.take_length] at hg hx
  exact Fin.growL hg (iC_row _) ⟨by rw [placesT, if_pos (all_take hx)]; rfl, rfl⟩
theorem numbers_is (l : List Int) (hl : l.length ≤ Big) : Is Try.prog 23 [.c (.sl 1 (l.map iC)), .c (.sl 1 (l.map iC))] (vB true) := by
  refine Is.of TP Try.func23 rfl rfl (Nat.le_of_ble_eq_true rfl) fun st => Pw.of TP [] ?_
  conv => whnf
  refine ⟨fun h => absurd rfl h, fun _ => ?_⟩
  conv => whnf
  refine Pw.rng (τ := Unit) 5 l.length hl [0, 1] (fun _ => []) (fun i _ => True) () rfl ⟨⟩ trivial fun i _ hi hx => Pw.of TP [] ?_
  conv => whnf
  refine ⟨fun h => ?_, fun h => ?_⟩ <;> conv => whnf
  · have hi' := lt_map ‹_›
    have k2 := fun F => ixm (f := iC) (F := F) hi'
    generalize l[i] = c at k2 ⊢
    refine Pw.drw TP mixed (by kernel_rfl) ?_; conv => whnf
    refine k2 _ ?_
    conv => whnf
    refine k2 _ ?_
    conv => whnf
    refine ⟨fun h => absurd rfl h, fun _ => ?_⟩
    conv => whnf
    exact ⟨hi', rfl, ⟨rfl, rfl, trivial⟩, (), trivial, .refl _, trivial⟩
  exact Fin.old rfl (.refl _)
theorem any_eq (l : List ByteArray) (x : ByteArray) : (l.any fun y => decide (x = y)) = l.any fun y => decide (y = x) := by
  congr 1; funext y; by_cases h : x = y
  · rw [decide_eq_true h, decide_eq_true h.symm]
  · rw [decide_eq_false h, decide_eq_false (fun e => h e.symm)]
theorem uses_is (t : Tbl) (ok : okT t) (s : ByteArray) : Is Try.prog 28 [.g (eT t), vS s] (vB ((rusedT t).any fun y => decide (y = s))) := by
  refine Is.of TP Try.func28 rfl rfl (Nat.le_of_ble_eq_true rfl) fun st => Pw.of TP [] ?_
  conv => whnf
  refine (used_is t ok).call ?_
  conv => whnf
  refine Is.callB (contS_is (usedT t) (by have := usedT_len t ok; unfold Big; omega) s) fun b hb => ?_
  conv => whnf
  (refine Fin.old (congrArg vB ?_) (.refl _); rw [used_any, ← any_eq, hb])
theorem named14_is (t : Tbl) (ok : okT t) (s : ByteArray) : Is Try.prog 30 [.g (eT t), vS s] (vB ((namesT t).any fun y => decide (y = s))) := by
  refine Is.of TP Try.func30 rfl rfl (Nat.le_of_ble_eq_true rfl) fun st => Pw.of TP [] ?_
  conv => whnf
  refine (tnames_is t ok).call ?_
  conv => whnf
  refine Is.callB (contS_is (namesT t) (by have := namesT_len t ok; unfold Big; omega) s) fun b hb => ?_
  conv => whnf
  (refine Fin.old (congrArg vB ?_) (.refl _); rw [← any_eq, hb])
theorem placesT_len (t : Tbl) (l : List ByteArray) (hl : l.length ≤ 12) : (placesT t l).1.length ≤ Big := by
  unfold placesT; split
  · rw [List.length_map]; exact big12 hl
  · exact Nat.zero_le _
theorem tablePlaces_law (t : Tbl) (l : List ByteArray) (_ : wfT t) (_ : wfL l) : Is Try.prog 5 [.g (eT t), .c (eS l)] (vB true) := by
  have el : (l.map strC).length = l.length := List.length_map ..
  refine Is.of TP Try.func5 rfl rfl (Nat.le_of_ble_eq_true rfl) fun st => Pw.of TP [] ?_
  conv => whnf
  refine Is.callB (fewT_is t) fun b hb => ?_
  cases b <;> conv => whnf
  · refine works14_is.call ?_
    conv => whnf
    exact Fin.old rfl (.refl _)
  have ok := fewT_ok t hb
  refine ⟨fun h => ?_, fun h => ?_⟩ <;> rw [el] at h <;> conv => whnf
  · refine works14_is.call ?_
    conv => whnf
    exact Fin.old rfl (.refl _)
  have hl : l.length ≤ 12 := by omega
  refine Pw.rng (τ := Unit) 5 l.length (big12 hl) [1, 2] (fun _ => []) (fun i _ => True) () rfl ⟨⟩ trivial fun i _ hi hx => Pw.of TP [] ?_
  conv => whnf
  refine ⟨fun h => ?_, fun h => ?_⟩ <;> conv => whnf
  · have hi' := lt_map ‹_›
    have k2 := fun F => ixm (f := strC) (F := F) hi'
    generalize l[i] = c at k2 ⊢
    refine k2 _ ?_
    conv => whnf
    refine ⟨fun h => ?_, fun h => ?_⟩ <;> conv => whnf
    · refine works14_is.call ?_
      conv => whnf
      exact Fin.old rfl (.refl _)
    · exact ⟨hi', rfl, ⟨rfl, rfl, trivial⟩, (), trivial, .refl _, trivial⟩
  refine (places_is t ok l hl).call ?_
  conv => whnf
  refine (rplaces_is t ok l hl).call ?_
  conv => whnf
  refine (numbers_is _ (placesT_len t l hl)).call ?_
  conv => whnf
  refine ⟨fun h => absurd rfl h, fun _ => ?_⟩
  conv => whnf
  refine (rused_is t ok).call ?_
  conv => whnf
  refine (rnames14_is t ok).call ?_
  conv => whnf
  refine Pw.rng (τ := Unit) 13 l.length (big12 hl) [1, 2, 10, 12] (fun _ => []) (fun i _ => True) () rfl ⟨⟩ trivial fun i _ hi hx => Pw.of TP [] ?_
  conv => whnf
  refine ⟨fun h => ?_, fun h => ?_⟩ <;> conv => whnf
  · have hi' := lt_map ‹_›
    have k2 := fun F => ixm (f := strC) (F := F) hi'
    generalize l[i] = c at k2 ⊢
    have c1 := tcol_is t ok c
    have c2 := rcol14_is t ok c
    have c3 := uses_is t ok c
    have c4 := has_is (rusedT t) (by have := rusedT_len t ok; unfold Big; omega) c
    have c5 := named14_is t ok c
    have c6 := has_is (namesT t) (by have := namesT_len t ok; unfold Big; omega) c
    generalize colT t c = n at c1 c2
    generalize ((rusedT t).any fun y => decide (y = c)) = b1 at c3 c4
    generalize ((namesT t).any fun y => decide (y = c)) = b2 at c5 c6
    refine Pw.drw TP mixed (by kernel_rfl) ?_; conv => whnf
    refine k2 _ ?_
    conv => whnf
    refine Is.draw c1 ?_
    conv => whnf
    refine k2 _ ?_
    conv => whnf
    refine Is.draw c2 ?_
    conv => whnf
    refine ⟨fun h => absurd rfl h, fun _ => ?_⟩
    conv => whnf
    refine k2 _ ?_
    conv => whnf
    refine Is.draw c3 ?_
    conv => whnf
    refine k2 _ ?_
    conv => whnf
    refine Is.draw c4 ?_
    cases b1 <;> conv => whnf
    all_goals refine k2 _ ?_
    all_goals conv => whnf
    all_goals refine Is.draw c5 ?_
    all_goals conv => whnf
    all_goals refine k2 _ ?_
    all_goals conv => whnf
    all_goals refine Is.draw c6 ?_
    all_goals cases b2 <;> conv => whnf
    all_goals exact ⟨hi', rfl, ⟨rfl, rfl, rfl, rfl, trivial⟩, (), trivial, .refl _, trivial⟩
  refine works14_is.call ?_
  conv => whnf
  exact Fin.old rfl (.refl _)
end Go.Proofs.Ytbmgenifdlgbmaa.D
