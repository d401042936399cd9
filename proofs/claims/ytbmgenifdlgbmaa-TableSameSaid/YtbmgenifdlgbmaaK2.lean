/- Words and contracts: a plain machine over the model, and what the functions that a law reaches come to, each for every input that its theorem names. -/
import Derived.Test.YtbmgenifdlgbmaaK1
import Derived.Test.YtbmgenifdlgbmaaV3
import Derived.Test.YtbmgenifdlgbmaaV2
namespace Go.Proofs.Ytbmgenifdlgbmaa.D
set_option linter.unusedVariables false
set_option linter.unusedSimpArgs false
open Go Go.Proofs.Ytbmgenifdlgbmaa.D.Pm
set_option maxRecDepth 4000
def namesT (t : Tbl) : List ByteArray := t.cons.map (·.name) ++ t.idx.map (·.name)
theorem tnames_is (t : Tbl) (ok : okT t) : Is Try.prog 73 [.g (eT t)] (.c (eS (namesT t))) := by
  have hl := ok.2.2.2.1.1
  have hl2 := ok.2.2.2.2.1
  refine Is.of TP Try.func73 rfl rfl (Nat.le_of_ble_eq_true rfl) fun st => Pw.of TP [] ?_
  conv => whnf
  refine Pw.rngS (τ := AC × Sto) 11 t.cons.length (big12 hl) [1, 9, 10] (fun _ y => [(3, .c y.1)]) (fun _ y => y.2) (fun i y => Grow st 1 y.2 y.1 (((t.cons.take i).map (·.name)).map strC)) (.v (.slice none 0 0), st) rfl ⟨rfl, trivial⟩ (.refl _) (.nil (.refl _)) fun i y hi hg => Pw.of TP [] ?_
  obtain ⟨a, s⟩ := y
  simp only at hg ⊢
  conv => whnf
  repeat' (first | (refine ⟨fun h => ?_, fun h => ?_⟩ <;> conv => whnf) | fail)
  · have hi' := lt_map ‹_›
    refine ixm hi' ?_
    have hs := map_take2 (f := Con.name) hi'
    generalize t.cons[i] = c at hs ⊢
    obtain ⟨nm, kd, cols, ⟨k, op, v, n, kids⟩, tb, refs⟩ := c
    conv => whnf
    refine Grow.app (z := ⟨.s, 1, 16, [.string ⟨#[]⟩]⟩) hg (by simp [maxLen]; omega) (by simp; omega) fun a' st' hg' hk => ?_
    conv => whnf
    exact ⟨hi', rfl, ⟨rfl, rfl, rfl, trivial⟩, (a', st'), ⟨rfl, trivial⟩, .refl _, by rw [hs, List.map_append]; exact hg'⟩
  · obtain rfl := nlt_map ‹_› hi
    rw [List.take_length] at hg
    refine Pw.rngS (τ := AC × Sto) 24 t.idx.length (big12 hl2) [1, 22, 23] (fun _ y => [(3, .c y.1)]) (fun _ y => y.2) (fun i y => Grow st 1 y.2 y.1 ((t.cons.map (·.name) ++ (t.idx.take i).map (·.name)).map strC)) (a, s) rfl ⟨rfl, trivial⟩ (.refl _) (by simpa using hg) fun i y hi hg => Pw.of TP [] ?_
    obtain ⟨a, s⟩ := y
    simp only at hg ⊢
    conv => whnf
    repeat' (first | (refine ⟨fun h => ?_, fun h => ?_⟩ <;> conv => whnf) | fail)
    · have hi' := lt_map ‹_›
      refine ixm hi' ?_
      have hs := map_take2 (f := Ix.name) hi'
      generalize t.idx[i] = c at hs ⊢
      conv => whnf
      refine Grow.app (z := ⟨.s, 1, 16, [.string ⟨#[]⟩]⟩) hg (by simp [maxLen]; omega) (by simp; omega) fun a' st' hg' hk => ?_
      conv => whnf
      exact ⟨hi', rfl, ⟨rfl, rfl, rfl, trivial⟩, (a', st'), ⟨rfl, trivial⟩, .refl _, by rw [hs, ← List.append_assoc, List.map_append]; exact hg'⟩
    · obtain rfl := nlt_map ‹_› hi
      rw [List.take_length] at hg
      exact Fin.grow hg (strC_row _) ⟨rfl, rfl⟩
def namedT (t : Tbl) : Bool := isName t.name && (isName t.owner && (t.cols.all (fun c => isName c.name) && (t.cons.all (fun c => isName c.name) && t.idx.all (fun c => isName c.name))))
theorem named_is (t : Tbl) (ok : okT t) : Is Try.prog 56 [.g (eT t)] (vB (namedT t)) := by
  have n1 := isName_is t.name ok.1.lt
  have n2 := isName_is t.owner ok.2.1.lt
  obtain ⟨hl1, o1⟩ := ok.2.2.1
  obtain ⟨hl2, o2⟩ := ok.2.2.2.1
  obtain ⟨hl3, o3⟩ := ok.2.2.2.2
  refine Is.of TP Try.func56 rfl rfl (Nat.le_of_ble_eq_true rfl) fun st => Pw.of TP [1] ?_
  conv => whnf
  refine Pw.cut (τ := Bool) [1] (fun b => [(3, vB b)]) (fun _ => st) (fun b => b = (isName t.name && isName t.owner)) (Pw.of TP [] ?_) fun b hb => Pw.of TP [] ?_
  · conv => whnf
    repeat' (first | (refine ⟨fun h => ?_, fun h => ?_⟩ <;> conv => whnf) | (refine Is.callB (n1) fun b hb => ?_; cases b <;> conv => whnf) | (refine Is.callB (n2) fun b hb => ?_; cases b <;> conv => whnf) | fail)
    all_goals exact ⟨⟨rfl, trivial⟩, _, ⟨rfl, trivial⟩, .refl _, by simp [*]⟩
  conv => whnf
  refine Pw.rng (τ := Bool) 21 t.cols.length (big12 hl1) [1, 19, 20] (fun b => [(3, vB b)]) (fun i b => b = (isName t.name && isName t.owner && (t.cols.take i).all (fun c => isName c.name))) b rfl ⟨rfl, trivial⟩ (by simp [hb]) fun i b hi hx => Pw.of TP [] ?_
  conv => whnf
  repeat' (first | (refine ⟨fun h => ?_, fun h => ?_⟩ <;> conv => whnf) | fail)
  · have hi' := lt_map ‹_›
    refine ixm hi' ?_
    have hs := all_take2 (p := fun c : Cl => isName c.name) hi'
    have hn := isName_is t.cols[i].name (o1 _ (List.getElem_mem hi')).lt
    generalize t.cols[i] = c at hs hn ⊢
    cases b <;> conv => whnf
    · exact ⟨hi', rfl, ⟨rfl, rfl, rfl, trivial⟩, false, ⟨rfl, trivial⟩, .refl _, by rw [hs, ← Bool.and_assoc, ← hx]; rfl⟩
    · refine Is.callB hn fun b hb => ?_
      cases b <;> conv => whnf
      all_goals exact ⟨hi', rfl, ⟨rfl, rfl, rfl, trivial⟩, _, ⟨rfl, trivial⟩, .refl _, by rw [hs, ← Bool.and_assoc, ← hx, hb]; rfl⟩
  obtain rfl := nlt_map ‹_› hi
  rw [List.take_length] at hx
  refine Pw.rng (τ := Bool) 35 t.cons.length (big12 hl2) [1, 33, 34] (fun b => [(3, vB b)]) (fun i b => b = (isName t.name && isName t.owner && t.cols.all (fun c => isName c.name) && (t.cons.take i).all (fun c => isName c.name))) b rfl ⟨rfl, trivial⟩ (by simp [hx]) fun i b hi hx => Pw.of TP [] ?_
  conv => whnf
  repeat' (first | (refine ⟨fun h => ?_, fun h => ?_⟩ <;> conv => whnf) | fail)
  · have hi' := lt_map ‹_›
    refine ixm hi' ?_
    have hs := all_take2 (p := fun c : Con => isName c.name) hi'
    have hn := isName_is t.cons[i].name (o2 _ (List.getElem_mem hi')).1.lt
    generalize t.cons[i] = c at hs hn ⊢
    obtain ⟨nm, kd, cols, ⟨k, op, v, n, kids⟩, tb, refs⟩ := c
    cases b <;> conv => whnf
    · exact ⟨hi', rfl, ⟨rfl, rfl, rfl, trivial⟩, false, ⟨rfl, trivial⟩, .refl _, by rw [hs, ← Bool.and_assoc, ← hx]; rfl⟩
    · refine Is.callB hn fun b hb => ?_
      cases b <;> conv => whnf
      all_goals exact ⟨hi', rfl, ⟨rfl, rfl, rfl, trivial⟩, _, ⟨rfl, trivial⟩, .refl _, by rw [hs, ← Bool.and_assoc, ← hx]; simp only; rw [hb]; rfl⟩
  obtain rfl := nlt_map ‹_› hi
  rw [List.take_length] at hx
  refine Pw.rng (τ := Bool) 49 t.idx.length (big12 hl3) [1, 47, 48] (fun b => [(3, vB b)]) (fun i b => b = (isName t.name && isName t.owner && t.cols.all (fun c => isName c.name) && t.cons.all (fun c => isName c.name) && (t.idx.take i).all (fun c => isName c.name))) b rfl ⟨rfl, trivial⟩ (by simp [hx]) fun i b hi hx => Pw.of TP [] ?_
  conv => whnf
  repeat' (first | (refine ⟨fun h => ?_, fun h => ?_⟩ <;> conv => whnf) | fail)
  · have hi' := lt_map ‹_›
    refine ixm hi' ?_
    have hs := all_take2 (p := fun c : Ix => isName c.name) hi'
    have hn := isName_is t.idx[i].name (o3 _ (List.getElem_mem hi')).1.lt
    generalize t.idx[i] = c at hs hn ⊢
    cases b <;> conv => whnf
    · exact ⟨hi', rfl, ⟨rfl, rfl, rfl, trivial⟩, false, ⟨rfl, trivial⟩, .refl _, by rw [hs, ← Bool.and_assoc, ← hx]; rfl⟩
    · refine Is.callB hn fun b hb => ?_
      cases b <;> conv => whnf
      all_goals exact ⟨hi', rfl, ⟨rfl, rfl, rfl, trivial⟩, _, ⟨rfl, trivial⟩, .refl _, by rw [hs, ← Bool.and_assoc, ← hx, hb]; rfl⟩
  obtain rfl := nlt_map ‹_› hi
  rw [List.take_length] at hx
  (refine Fin.old (congrArg vB ?_) (.refl _); rw [hx, namedT]; simp only [Bool.and_assoc])
end Go.Proofs.Ytbmgenifdlgbmaa.D
namespace Go.Proofs.Ytbmgenifdlgbmaa.D
set_option linter.unusedVariables false
set_option linter.unusedSimpArgs false
open Go Go.Proofs.Ytbmgenifdlgbmaa.D.Pm
set_option maxRecDepth 4000
def typOkC (c : Cl) : Bool := decide (1 ≤ c.typ) && decide (c.typ ≤ 3)
def kindOkC (c : Con) : Bool := decide (1 ≤ c.kind) && decide (c.kind ≤ 3)
def kindsT (t : Tbl) : Bool := decide (0 ≤ t.version) && (t.cols.all typOkC && t.cons.all kindOkC)
theorem kinds_is (t : Tbl) (ok : okT t) : Is Try.prog 57 [.g (eT t)] (vB (kindsT t)) := by
  obtain ⟨hl1, o1⟩ := ok.2.2.1
  obtain ⟨hl2, o2⟩ := ok.2.2.2.1
  refine Is.of TP Try.func57 rfl rfl (Nat.le_of_ble_eq_true rfl) fun st => Pw.of TP [1] ?_
  conv => whnf
  refine Pw.cut (τ := Bool) [1] (fun b => [(3, vB b)]) (fun _ => st) (fun b => b = decide (0 ≤ t.version)) (Pw.of TP [] ?_) fun b hb => Pw.of TP [] ?_
  · conv => whnf
    repeat' (first | (refine ⟨fun h => ?_, fun h => ?_⟩ <;> conv => whnf) | fail)
    all_goals exact ⟨⟨rfl, trivial⟩, _, ⟨rfl, trivial⟩, .refl _, by simp [*] <;> omega⟩
  conv => whnf
  refine Pw.rng (τ := Bool) 14 t.cols.length (big12 hl1) [1, 12, 13] (fun b => [(3, vB b)]) (fun i b => b = (decide (0 ≤ t.version) && (t.cols.take i).all typOkC)) b rfl ⟨rfl, trivial⟩ (by simp [hb]) fun i b hi hx => Pw.of TP [] ?_
  conv => whnf
  repeat' (first | (refine ⟨fun h => ?_, fun h => ?_⟩ <;> conv => whnf) | fail)
  · have hi' := lt_map ‹_›
    refine ixm hi' ?_
    have hs := all_take2 (p := typOkC) hi'
    generalize t.cols[i] = c at hs ⊢
    cases b <;> conv => whnf
    · exact ⟨hi', rfl, ⟨rfl, rfl, rfl, trivial⟩, false, ⟨rfl, trivial⟩, .refl _, by rw [hs, ← Bool.and_assoc, ← hx]; rfl⟩
    · repeat' (first | (refine ⟨fun h => ?_, fun h => ?_⟩ <;> conv => whnf) | fail)
      all_goals exact ⟨hi', rfl, ⟨rfl, rfl, rfl, trivial⟩, _, ⟨rfl, trivial⟩, .refl _, by rw [hs, ← Bool.and_assoc, ← hx]; simp [typOkC, *] <;> omega⟩
  obtain rfl := nlt_map ‹_› hi
  rw [List.take_length] at hx
  refine Pw.rng (τ := Bool) 33 t.cons.length (big12 hl2) [1, 31, 32] (fun b => [(3, vB b)]) (fun i b => b = (decide (0 ≤ t.version) && t.cols.all typOkC && (t.cons.take i).all kindOkC)) b rfl ⟨rfl, trivial⟩ (by simp [hx]) fun i b hi hx => Pw.of TP [] ?_
  conv => whnf
  repeat' (first | (refine ⟨fun h => ?_, fun h => ?_⟩ <;> conv => whnf) | fail)
  · have hi' := lt_map ‹_›
    refine ixm hi' ?_
    have hs := all_take2 (p := kindOkC) hi'
    generalize t.cons[i] = c at hs ⊢
    obtain ⟨nm, kd, cols, ⟨k, op, v, n, kids⟩, tb, refs⟩ := c
    cases b <;> conv => whnf
    · exact ⟨hi', rfl, ⟨rfl, rfl, rfl, trivial⟩, false, ⟨rfl, trivial⟩, .refl _, by rw [hs, ← Bool.and_assoc, ← hx]; rfl⟩
    · repeat' (first | (refine ⟨fun h => ?_, fun h => ?_⟩ <;> conv => whnf) | fail)
      all_goals exact ⟨hi', rfl, ⟨rfl, rfl, rfl, trivial⟩, _, ⟨rfl, trivial⟩, .refl _, by rw [hs, ← Bool.and_assoc, ← hx]; simp [kindOkC, *] <;> omega⟩
  obtain rfl := nlt_map ‹_› hi
  rw [List.take_length] at hx
  (refine Fin.old (congrArg vB ?_) (.refl _); rw [hx, kindsT]; simp only [Bool.and_assoc])
def countC (c : Con) : Bool := (decide (c.kind = 2) || keyed c.cols.length) && (!decide (c.kind = 3) || keyed c.refs.length)
def countI (c : Ix) : Bool := keyed c.cols.length
def lensT (t : Tbl) : Bool := decide (1 ≤ t.cols.length) && (decide (t.cols.length ≤ 6) && (decide (t.cons.length ≤ 6) && decide (t.idx.length ≤ 3)))
def countsT (t : Tbl) : Bool := lensT t && (t.cons.all countC && t.idx.all countI)
theorem counts_is (t : Tbl) (ok : okT t) : Is Try.prog 58 [.g (eT t)] (vB (countsT t)) := by
  obtain ⟨hl2, o2⟩ := ok.2.2.2.1
  obtain ⟨hl3, o3⟩ := ok.2.2.2.2
  have el1 : (t.cols.map eCl).length = t.cols.length := List.length_map ..
  have el2 : (t.cons.map eCon).length = t.cons.length := List.length_map ..
  have el3 : (t.idx.map eIx).length = t.idx.length := List.length_map ..
  refine Is.of TP Try.func58 rfl rfl (Nat.le_of_ble_eq_true rfl) fun st => Pw.of TP [1] ?_
  conv => whnf
  refine Pw.cut (τ := Bool) [1] (fun b => [(3, vB b)]) (fun _ => st) (fun b => b = lensT t) (Pw.of TP [] ?_) fun b hb => Pw.of TP [] ?_
  · conv => whnf
    repeat' (first | (refine ⟨fun h => ?_, fun h => ?_⟩ <;> conv => whnf) | fail)
    all_goals rw [el1] at *
    all_goals refine ⟨⟨rfl, trivial⟩, _, ⟨rfl, trivial⟩, .refl _, ?_⟩
    all_goals first | (symm; simp only [lensT, Bool.and_eq_true, decide_eq_true_eq]; omega) | (symm; simp only [lensT, Bool.and_eq_false_iff, decide_eq_false_iff_not]; omega)
  conv => whnf
  refine Pw.rng (τ := Bool) 33 t.cons.length (big12 hl2) [1, 31, 32] (fun b => [(3, vB b)]) (fun i b => b = (lensT t && (t.cons.take i).all countC)) b rfl ⟨rfl, trivial⟩ (by simp [hb]) fun i b hi hx => Pw.of TP [] ?_
  conv => whnf
  repeat' (first | (refine ⟨fun h => ?_, fun h => ?_⟩ <;> conv => whnf) | fail)
  · have hi' := lt_map ‹_›
    refine ixm hi' ?_
    have hs := all_take2 (p := countC) hi'
    generalize t.cons[i] = c at hs ⊢
    obtain ⟨nm, kd, cols, ⟨k, op, v, n, kids⟩, tb, refs⟩ := c
    cases b <;> conv => whnf
    · exact ⟨hi', rfl, ⟨rfl, rfl, rfl, trivial⟩, false, ⟨rfl, trivial⟩, .refl _, by rw [hs, ← Bool.and_assoc, ← hx]; rfl⟩
    · repeat' (first | (refine ⟨fun h => ?_, fun h => ?_⟩ <;> conv => whnf) | (refine Is.callB (keyed_is _) fun b hb => ?_; cases b <;> conv => whnf) | fail)
      all_goals exact ⟨hi', rfl, ⟨rfl, rfl, rfl, trivial⟩, _, ⟨rfl, trivial⟩, .refl _, by rw [hs, ← Bool.and_assoc, ← hx]; simp only [countC]; first | (simp [*]; done) | simp_all⟩
  obtain rfl := nlt_map ‹_› hi
  rw [List.take_length] at hx
  refine Pw.rng (τ := Bool) 62 t.idx.length (big12 hl3) [1, 60, 61] (fun b => [(3, vB b)]) (fun i b => b = (lensT t && t.cons.all countC && (t.idx.take i).all countI)) b rfl ⟨rfl, trivial⟩ (by simp [hx]) fun i b hi hx => Pw.of TP [] ?_
  conv => whnf
  repeat' (first | (refine ⟨fun h => ?_, fun h => ?_⟩ <;> conv => whnf) | fail)
  · have hi' := lt_map ‹_›
    refine ixm hi' ?_
    have hs := all_take2 (p := countI) hi'
    generalize t.idx[i] = c at hs ⊢
    cases b <;> conv => whnf
    · exact ⟨hi', rfl, ⟨rfl, rfl, rfl, trivial⟩, false, ⟨rfl, trivial⟩, .refl _, by rw [hs, ← Bool.and_assoc, ← hx]; rfl⟩
    · refine Is.callB (keyed_is _) fun b hb => ?_
      cases b <;> conv => whnf
      all_goals exact ⟨hi', rfl, ⟨rfl, rfl, rfl, trivial⟩, _, ⟨rfl, trivial⟩, .refl _, by rw [hs, ← Bool.and_assoc, ← hx, countI, hb]; rfl⟩
  obtain rfl := nlt_map ‹_› hi
  rw [List.take_length] at hx
  (refine Fin.old (congrArg vB ?_) (.refl _); rw [hx, countsT]; simp only [Bool.and_assoc])
end Go.Proofs.Ytbmgenifdlgbmaa.D
namespace Go.Proofs.Ytbmgenifdlgbmaa.D
set_option linter.unusedVariables false
set_option linter.unusedSimpArgs false
open Go Go.Proofs.Ytbmgenifdlgbmaa.D.Pm
set_option maxRecDepth 4000
theorem addName_len (out : List ByteArray) (e : Ex) : (addName out e).length ≤ out.length + 1 := by
  unfold addName; split
  · simp
  · omega
theorem foldName_len : ∀ (l : List Ex) (out : List ByteArray), (l.foldl addName out).length ≤ out.length + l.length
  | [], out => by simp
  | e :: l, out => by
    rw [List.foldl_cons, List.length_cons]
    have h1 := foldName_len l (addName out e)
    have h2 := addName_len out e
    omega
theorem namesE_len (e : Ex) : (namesE e).length ≤ nodes e := by
  rw [namesE, fold_parts, ← parts_len]
  have := foldName_len (parts e) []
  simpa using this
def usedC (x : Con) : List ByteArray := x.cols ++ (if x.kind = 2 then namesE x.check else [])
def usedT (t : Tbl) : List ByteArray := t.cons.flatMap usedC ++ t.idx.flatMap Ix.cols
theorem usedC_len {x : Con} (h : okC x) : (usedC x).length ≤ 72 := by
  have h1 := h.2.1.1
  have h2 := h.2.2.1.2
  have h3 := namesE_len x.check
  rw [usedC, List.length_append]
  split
  · omega
  · simp; omega
theorem used_is (t : Tbl) (ok : okT t) : Is Try.prog 72 [.g (eT t)] (.c (eS (usedT t))) := by
  obtain ⟨hl2, o2⟩ := ok.2.2.2.1
  obtain ⟨hl3, o3⟩ := ok.2.2.2.2
  refine Is.of TP Try.func72 rfl rfl (Nat.le_of_ble_eq_true rfl) fun st => Pw.of TP [] ?_
  conv => whnf
  refine Pw.rngS (τ := AC × Sto) 11 t.cons.length (big12 hl2) [1, 9, 10] (fun _ y => [(3, .c y.1)]) (fun _ y => y.2) (fun i y => Grow st 1 y.2 y.1 (((t.cons.take i).flatMap usedC).map strC) ∧ ((t.cons.take i).flatMap usedC).length ≤ 72 * i) (.v (.slice none 0 0), st) rfl ⟨rfl, trivial⟩ (.refl _) ⟨.nil (.refl _), by simp⟩ fun i y hi hg => Pw.of TP [] ?_
  obtain ⟨a, s⟩ := y
  obtain ⟨hg, hlen⟩ := hg
  simp only at hg ⊢
  conv => whnf
  repeat' (first | (refine ⟨fun h => ?_, fun h => ?_⟩ <;> conv => whnf) | fail)
  · have hi' := lt_map ‹_›
    refine ixm hi' ?_
    have hs := flat_take2 (f := usedC) hi'
    have hoc := o2 _ (List.getElem_mem hi')
    generalize t.cons[i] = c at hs hoc ⊢
    have hu := usedC_len hoc
    have hn := names_is c.check hoc.2.2.1.1 (by have := hoc.2.2.1.2; unfold Lim; omega)
    have hnl := namesE_len c.check
    have hcl := hoc.2.1.1
    have hcn := hoc.2.2.1.2
    have hun : usedC c = c.cols ++ (if c.kind = 2 then namesE c.check else []) := rfl
    obtain ⟨nm, kd, cols, ck, tb, refs⟩ := c
    simp only at hn hnl hcl hun hcn
    generalize hne : namesE ck = ne at hn hnl hun
    obtain ⟨k, op, v, n, kids⟩ := ck
    conv => whnf
    refine Grow.app (z := ⟨.s, 1, 16, [.string ⟨#[]⟩]⟩) hg (by simp only [List.length_map]; unfold maxLen; omega) (by simp only [List.length_map]; omega) fun a' st' hg' hk => ?_
    conv => whnf
    repeat' (first | (refine ⟨fun h => ?_, fun h => ?_⟩ <;> conv => whnf) | fail)
    · refine Is.call hn ?_
      conv => whnf
      refine Grow.app (z := ⟨.s, 1, 16, [.string ⟨#[]⟩]⟩) hg' (by simp only [List.length_map, List.length_append]; unfold maxLen; omega) (by simp only [List.length_map, List.length_append]; omega) fun a2 st2 hg2 hk2 => ?_
      conv => whnf
      refine ⟨hi', rfl, ⟨rfl, rfl, rfl, trivial⟩, (a2, st2), ⟨rfl, trivial⟩, .refl _, ?_, ?_⟩
      · rw [hs, hun, if_pos ‹_›, List.map_append, List.map_append, ← List.append_assoc]; exact hg2
      · rw [hs, List.length_append]; omega
    · refine ⟨hi', rfl, ⟨rfl, rfl, rfl, trivial⟩, (a', st'), ⟨rfl, trivial⟩, .refl _, ?_, ?_⟩
      · rw [hs, hun, if_neg ‹_›, List.append_nil, List.map_append]; exact hg'
      · rw [hs, List.length_append]; omega
  · obtain rfl := nlt_map ‹_› hi
    rw [List.take_length] at hg hlen
    refine Pw.rngS (τ := AC × Sto) 31 t.idx.length (big12 hl3) [1, 29, 30] (fun _ y => [(3, .c y.1)]) (fun _ y => y.2) (fun i y => Grow st 1 y.2 y.1 ((t.cons.flatMap usedC ++ (t.idx.take i).flatMap Ix.cols).map strC) ∧ ((t.idx.take i).flatMap Ix.cols).length ≤ 12 * i) (a, s) rfl ⟨rfl, trivial⟩ (.refl _) ⟨by simpa using hg, by simp⟩ fun i y hi hg => Pw.of TP [] ?_
    obtain ⟨a, s⟩ := y
    obtain ⟨hg, hlen2⟩ := hg
    simp only at hg ⊢
    conv => whnf
    repeat' (first | (refine ⟨fun h => ?_, fun h => ?_⟩ <;> conv => whnf) | fail)
    · have hi' := lt_map ‹_›
      refine ixm hi' ?_
      have hs := flat_take2 (f := Ix.cols) hi'
      have hcl := (o3 _ (List.getElem_mem hi')).2.1
      generalize t.idx[i] = c at hs hcl ⊢
      conv => whnf
      refine Grow.app (z := ⟨.s, 1, 16, [.string ⟨#[]⟩]⟩) hg (by simp only [List.length_map, List.length_append]; unfold maxLen; omega) (by simp only [List.length_map, List.length_append]; omega) fun a' st' hg' hk => ?_
      conv => whnf
      refine ⟨hi', rfl, ⟨rfl, rfl, rfl, trivial⟩, (a', st'), ⟨rfl, trivial⟩, .refl _, ?_, ?_⟩
      · rw [hs, ← List.append_assoc, List.map_append]; exact hg'
      · rw [hs, List.length_append]; omega
    · obtain rfl := nlt_map ‹_› hi
      rw [List.take_length] at hg
      exact Fin.grow hg (strC_row _) ⟨rfl, rfl⟩
end Go.Proofs.Ytbmgenifdlgbmaa.D
namespace Go.Proofs.Ytbmgenifdlgbmaa.D
set_option linter.unusedVariables false
set_option linter.unusedSimpArgs false
open Go Go.Proofs.Ytbmgenifdlgbmaa.D.Pm
set_option maxRecDepth 4000
theorem idxC_is (l : List Cl) (hl : l.length ≤ Big) (g : Nat) (caps : List AC) (p : Cl → Bool) (hf : ∀ e ∈ l, Is Try.prog g (.g (eCl e) :: caps.map .c) (vB (p e))) :
    Is Try.prog 69 [.c (.sl 3 (l.map eCl)), .c (.fn g caps)] (vI .i64 (idx p l)) := by
  refine Is.of TP Try.func69 rfl rfl (Nat.le_of_ble_eq_true rfl) fun st => Pw.of TP [] ?_
  conv => whnf
  refine Pw.rng (τ := Unit) 8 l.length hl [0, 1, 7] (fun _ => []) (fun i _ => ∀ x ∈ l.take i, p x = false) () rfl trivial (by simp) fun i _ hi hx => Pw.of TP [] ?_
  conv => whnf
  repeat' (first | (refine ⟨fun h => ?_, fun h => ?_⟩ <;> conv => whnf) | fail)
  · have hi' := lt_map ‹_›
    refine ixm hi' ?_
    have hm := hf l[i] (List.getElem_mem hi')
    have hs := take_snoc (Q := fun x => p x = false) hi' hx
    have ha := idx_at hi' hx
    generalize l[i] = e at hm hs ha ⊢
    conv => whnf
    refine Is.callB hm fun b hb => ?_
    cases b <;> conv => whnf
    · exact ⟨hi', rfl, ⟨rfl, rfl, rfl, trivial⟩, (), trivial, .refl _, hs hb⟩
    · exact Fin.old (congrArg (vI .i64) (ha hb).symm) (.refl _)
  · obtain rfl := nlt_map ‹_› hi
    exact Fin.old (congrArg (vI .i64) (idx_no (by simpa using hx)).symm) (.refl _)
theorem idxF_is (l : List ByteArray) (hl : l.length ≤ Big) (g : Nat) (caps : List AC) (p : ByteArray → Bool) (hf : ∀ e ∈ l, Is Try.prog g (vS e :: caps.map .c) (vB (p e))) :
    Is Try.prog 138 [.c (eS l), .c (.fn g caps)] (vI .i64 (idx p l)) := by
  refine Is.of TP Try.func138 rfl rfl (Nat.le_of_ble_eq_true rfl) fun st => Pw.of TP [] ?_
  conv => whnf
  refine Pw.rng (τ := Unit) 8 l.length hl [0, 1, 7] (fun _ => []) (fun i _ => ∀ x ∈ l.take i, p x = false) () rfl trivial (by simp) fun i _ hi hx => Pw.of TP [] ?_
  conv => whnf
  repeat' (first | (refine ⟨fun h => ?_, fun h => ?_⟩ <;> conv => whnf) | fail)
  · have hi' := lt_map ‹_›
    refine ixm hi' ?_
    have hm := hf l[i] (List.getElem_mem hi')
    have hs := take_snoc (Q := fun x => p x = false) hi' hx
    have ha := idx_at hi' hx
    generalize l[i] = e at hm hs ha ⊢
    conv => whnf
    refine Is.callB hm fun b hb => ?_
    cases b <;> conv => whnf
    · exact ⟨hi', rfl, ⟨rfl, rfl, rfl, trivial⟩, (), trivial, .refl _, hs hb⟩
    · exact Fin.old (congrArg (vI .i64) (ha hb).symm) (.refl _)
  · obtain rfl := nlt_map ‹_› hi
    exact Fin.old (congrArg (vI .i64) (idx_no (by simpa using hx)).symm) (.refl _)
theorem anyF_is (l : List ByteArray) (hl : l.length ≤ Big) (g : Nat) (caps : List AC) (p : ByteArray → Bool) (hf : ∀ e ∈ l, Is Try.prog g (vS e :: caps.map .c) (vB (p e))) :
    Is Try.prog 112 [.c (eS l), .c (.fn g caps)] (vB (l.any p)) := by
  refine Is.of TP Try.func112 rfl rfl (Nat.le_of_ble_eq_true rfl) fun st => Pw.of TP [] ?_
  conv => whnf
  refine Is.callI (idxF_is l hl g caps p hf) fun b hb => ?_
  conv => whnf
  repeat' (first | (refine ⟨fun h => ?_, fun h => ?_⟩ <;> conv => whnf) | fail)
  · (refine Fin.old (congrArg vB ?_) (.refl _); rw [← idx_any, hb]; exact (decide_eq_true ‹_›).symm)
  · (refine Fin.old (congrArg vB ?_) (.refl _); rw [← idx_any, hb]; exact (decide_eq_false ‹_›).symm)
theorem col1_is (c : Cl) (s : ByteArray) : Is Try.prog 70 [.g (eCl c), .c (.ep [.v (.string s)])] (vB (decide (c.name = s))) := by
  refine Is.of TP Try.func70 rfl rfl (Nat.le_of_ble_eq_true rfl) fun st => Pw.of TP [] ?_
  conv => whnf
  repeat' (first | (refine ⟨fun h => ?_, fun h => ?_⟩ <;> conv => whnf) | fail)
  all_goals (refine Fin.old (congrArg vB ?_) (.refl _); simp [*])
def colT (t : Tbl) (s : ByteArray) : Int := idx (fun c => decide (c.name = s)) t.cols
theorem tcol_is (t : Tbl) (ok : okT t) (s : ByteArray) : Is Try.prog 26 [.g (eT t), vS s] (vI .i64 (colT t s)) := by
  refine Is.of TP Try.func26 rfl rfl (Nat.le_of_ble_eq_true rfl) fun st => Pw.of TP [] ?_
  conv => whnf
  refine Is.callI (idxC_is t.cols (big12 ok.2.2.1.1) _ _ (fun c => decide (c.name = s)) fun c _ => col1_is c s) fun b hb => ?_
  conv => whnf
  exact Fin.old (congrArg (vI .i64) hb.symm) (.refl _)
theorem there1_is (t : Tbl) (ok : okT t) (s : ByteArray) : Is Try.prog 113 [vS s, .c (.ep (eT t))] (vB (decide (colT t s < 0))) := by
  refine Is.of TP Try.func113 rfl rfl (Nat.le_of_ble_eq_true rfl) fun st => Pw.of TP [] ?_
  conv => whnf
  refine Is.callI (tcol_is t ok s) fun b hb => ?_
  conv => whnf
  repeat' (first | (refine ⟨fun h => ?_, fun h => ?_⟩ <;> conv => whnf) | fail)
  all_goals (refine Fin.old (congrArg vB ?_) (.refl _); rw [hb]; simp [*])
def thereT (t : Tbl) : Bool := !(usedT t).any fun s => decide (colT t s < 0)
theorem flat_len {α β : Type} (f : α → List β) (m : Nat) : ∀ l : List α, (∀ x ∈ l, (f x).length ≤ m) → (l.flatMap f).length ≤ l.length * m
  | [], _ => by simp
  | a :: l, h => by
    rw [List.flatMap_cons, List.length_append, List.length_cons, Nat.succ_mul]
    have h1 := h a (List.mem_cons_self ..)
    have h2 := flat_len f m l (fun x hx => h x (List.mem_cons_of_mem _ hx))
    omega
theorem usedT_len (t : Tbl) (ok : okT t) : (usedT t).length ≤ 1008 := by
  have h1 := flat_len usedC 72 t.cons (fun x hx => usedC_len (ok.2.2.2.1.2 x hx))
  have h2 := flat_len Ix.cols 12 t.idx (fun x hx => (ok.2.2.2.2.2 x hx).2.1)
  have h3 := ok.2.2.2.1.1
  have h4 := ok.2.2.2.2.1
  rw [usedT, List.length_append]
  have h5 : t.cons.length * 72 ≤ 12 * 72 := Nat.mul_le_mul_right _ h3
  have h6 : t.idx.length * 12 ≤ 12 * 12 := Nat.mul_le_mul_right _ h4
  omega
theorem there_is (t : Tbl) (ok : okT t) : Is Try.prog 60 [.g (eT t)] (vB (thereT t)) := by
  refine Is.of TP Try.func60 rfl rfl (Nat.le_of_ble_eq_true rfl) fun st => Pw.of TP [] ?_
  conv => whnf
  refine Is.call (used_is t ok) ?_
  conv => whnf
  refine Is.callB (anyF_is (usedT t) (by have := usedT_len t ok; unfold Big; omega) _ _ _ fun s _ => there1_is t ok s) fun b hb => ?_
  cases b <;> conv => whnf
  all_goals (refine Fin.old (congrArg vB ?_) (.refl _); rw [thereT, hb])
end Go.Proofs.Ytbmgenifdlgbmaa.D
namespace Go.Proofs.Ytbmgenifdlgbmaa.D
set_option linter.unusedVariables false
set_option linter.unusedSimpArgs false
open Go Go.Proofs.Ytbmgenifdlgbmaa.D.Pm
set_option maxRecDepth 4000
/-- what one check's expression comes to -/
def chk1 (x : Con) : Nat := if checkE false x.check = 0 ∧ 0 < paramsE x.check then 2 else checkE false x.check
def stepC (w : Nat) (x : Con) : Nat := if x.kind = 2 then (if chk1 x = 17 ∨ w = 0 then max w (chk1 x) else w) else w
def checksT (t : Tbl) : Nat := t.cons.foldl stepC 0
theorem step_eq (w e : Nat) (q : Int) : (if (if e = 0 ∧ 0 < q then 2 else e) = 17 ∨ w = 0 then max w (if e = 0 ∧ 0 < q then 2 else e) else w) = (if e = 0 ∧ 0 < q then (if w = 0 then 2 else w) else if e = 17 ∨ w = 0 then max w e else w) := by
  by_cases hc : e = 0 ∧ 0 < q
  · simp only [if_pos hc]
    by_cases hw : w = 0 <;> simp [hw]
  · simp only [if_neg hc]
theorem checks_is (t : Tbl) (ok : okT t) : Is Try.prog 61 [.g (eT t)] (vI .i64 (checksT t : Nat)) := by
  obtain ⟨hl2, o2⟩ := ok.2.2.2.1
  refine Is.of TP Try.func61 rfl rfl (Nat.le_of_ble_eq_true rfl) fun st => Pw.of TP [] ?_
  conv => whnf
  refine Pw.rng (τ := Nat) 10 t.cons.length (big12 hl2) [1, 8, 9] (fun w => [(3, vI .i64 w)]) (fun i w => w = (t.cons.take i).foldl stepC 0) 0 rfl ⟨rfl, trivial⟩ rfl fun i w hi hx => Pw.of TP [] ?_
  conv => whnf
  repeat' (first | (refine ⟨fun h => ?_, fun h => ?_⟩ <;> conv => whnf) | fail)
  · have hi' := lt_map ‹_›
    refine ixm hi' ?_
    have hs := foldl_take stepC 0 hi'
    rw [← hx] at hs
    have hoc := o2 _ (List.getElem_mem hi')
    generalize t.cons[i] = c at hs hoc ⊢
    have h1 := check_is c.check hoc.2.2.1.1 false
    have h2 := params_is c.check hoc.2.2.1.1
    have hst : stepC w c = if c.kind = 2 then (if (if checkE false c.check = 0 ∧ 0 < paramsE c.check then 2 else checkE false c.check) = 17 ∨ w = 0 then max w (if checkE false c.check = 0 ∧ 0 < paramsE c.check then 2 else checkE false c.check) else w) else w := rfl
    clear hoc hx
    obtain ⟨nm, kd, cols, ck, tb, refs⟩ := c
    simp only at h1 h2 hst
    generalize checkE false ck = e at h1 hst
    generalize paramsE ck = q at h2 hst
    obtain ⟨k, op, v, n, kids⟩ := ck
    conv => whnf
    repeat' (first | (refine ⟨fun h => ?_, fun h => ?_⟩ <;> conv => whnf) | fail)
    · exact ⟨hi', rfl, ⟨rfl, rfl, rfl, trivial⟩, w, ⟨rfl, trivial⟩, .refl _, by rw [hs, hst, if_neg ‹_›]⟩
    · have hk2 : kd = 2 := Classical.not_not.1 ‹_›
      rw [if_pos hk2, step_eq] at hst
      refine Is.call h1 ?_
      conv => whnf
      repeat' (first | (refine ⟨fun h => ?_, fun h => ?_⟩ <;> conv => whnf) | (refine Is.call h2 ?_; conv => whnf) | fail)
      all_goals first
        | exact ⟨hi', rfl, ⟨rfl, rfl, rfl, trivial⟩, w, ⟨rfl, trivial⟩, .refl _, by rw [hs, hst]; (repeat' split) <;> omega⟩
        | exact ⟨hi', rfl, ⟨rfl, rfl, rfl, trivial⟩, max w 2, ⟨congrArg (fun n => some (vI .i64 n)) (show (if (2 : Int) > (w : Int) then (2 : Int) else (w : Int)) = ((max w 2 : Nat) : Int) by split <;> omega), trivial⟩, .refl _, by rw [hs, hst]; (repeat' split) <;> omega⟩
        | exact ⟨hi', rfl, ⟨rfl, rfl, rfl, trivial⟩, max w e, ⟨congrArg (fun n => some (vI .i64 n)) (show (if (e : Int) > (w : Int) then (e : Int) else (w : Int)) = ((max w e : Nat) : Int) by split <;> omega), trivial⟩, .refl _, by rw [hs, hst]; (repeat' split) <;> omega⟩
        | trace_state
  · obtain rfl := nlt_map ‹_› hi
    rw [List.take_length] at hx
    exact Fin.old (congrArg (vI .i64) (by rw [hx]; rfl)) (.refl _)
end Go.Proofs.Ytbmgenifdlgbmaa.D
namespace Go.Proofs.Ytbmgenifdlgbmaa.D
set_option linter.unusedVariables false
set_option linter.unusedSimpArgs false
open Go Go.Proofs.Ytbmgenifdlgbmaa.D.Pm
set_option maxRecDepth 4000
def zeroE : Ex := .mk 0 0 ⟨0, 0, ⟨#[]⟩⟩ ⟨#[]⟩ []
/-- the expression that is none, as it is made -/
def zcs : List AC := [.v (.int .i64 0), .v (.int .i64 0), .v (.int .i64 0), .v (.int .i64 0), .v (.string ⟨#[]⟩), .v (.string ⟨#[]⟩), .v (.slice none 0 0)]
theorem zcs_fv (st : Sto) : FV (fun _ => false) st (.g zcs) (.g (eE zeroE)) := by
  refine .g _ _ rfl fun j c c' h1 h2 => ?_
  match j, h1, h2 with
  | 0, h1, h2 => cases h1; cases h2; exact .refl _
  | 1, h1, h2 => cases h1; cases h2; exact .refl _
  | 2, h1, h2 => cases h1; cases h2; exact .refl _
  | 3, h1, h2 => cases h1; cases h2; exact .refl _
  | 4, h1, h2 => cases h1; cases h2; exact .refl _
  | 5, h1, h2 => cases h1; cases h2; exact .refl _
  | 6, h1, h2 => cases h1; cases h2; exact .nil 7
  | j + 7, h1, h2 => simp [zcs] at h1
theorem sameZ_is (f : Nat) (e : Ex) (h : Is Try.prog f [.g (eE e), .g (eE zeroE)] (vB (eqE e zeroE))) : Is Try.prog f [.g (eE e), .g zcs] (vB (eqE e zeroE)) := fun st => by
  refine Does.args ?_ ?_ (h st)
  · rfl
  · intro j r r' h1 h2
    match j, h1, h2 with
    | 0, h1, h2 => cases h1; cases h2; exact .refl _
    | 1, h1, h2 => cases h1; cases h2; exact zcs_fv st
    | j + 2, h1, h2 => simp at h1
def noneE (e : Ex) : Bool := eqE e zeroE
def shapeC (x : Con) : Bool :=
  if x.kind = 1 then noneE x.check && (decide (x.table = ⟨#[]⟩) && decide (x.refs.length = 0))
  else if x.kind = 2 then decide (x.cols.length = 0) && (decide (x.table = ⟨#[]⟩) && decide (x.refs.length = 0))
  else if x.kind = 3 then noneE x.check && (isName x.table && decide (x.refs.length = x.cols.length))
  else false
def shapesT (t : Tbl) : Bool := t.cons.all shapeC
theorem shapes_is (t : Tbl) (ok : okT t) : Is Try.prog 62 [.g (eT t)] (vB (shapesT t)) := by
  obtain ⟨hl2, o2⟩ := ok.2.2.2.1
  refine Is.of TP Try.func62 rfl rfl (Nat.le_of_ble_eq_true rfl) fun st => Pw.of TP [] ?_
  conv => whnf
  refine Pw.rng (τ := Unit) 10 t.cons.length (big12 hl2) [1, 8, 9] (fun _ => []) (fun i _ => ∀ x ∈ t.cons.take i, shapeC x = true) () rfl ⟨⟩ (by simp) fun i _ hi hx => Pw.of TP [] ?_
  conv => whnf
  repeat' (first | (refine ⟨fun h => ?_, fun h => ?_⟩ <;> conv => whnf) | fail)
  · have hi' := lt_map ‹_›
    refine ixm hi' ?_
    have hoc := o2 _ (List.getElem_mem hi')
    have hs := take_snoc (Q := fun x => shapeC x = true) hi' hx
    have ha := all_at (p := shapeC) hi'
    generalize t.cons[i] = c at hs ha hoc ⊢
    have h1 := sameZ_is _ _ (same_is c.check hoc.2.2.1.1 zeroE)
    have h2 := isName_is c.table hoc.2.2.2.1.lt
    have el1 : (c.cols.map strC).length = c.cols.length := List.length_map ..
    have el2 : (c.refs.map strC).length = c.refs.length := List.length_map ..
    have hno : shapeC c = false → vB false = vB (shapesT t) := fun h => by rw [shapesT, ha h]
    obtain ⟨S, hS⟩ : ∃ S : Prop, S = ∀ x ∈ t.cons.take (i + 1), shapeC x = true := ⟨_, rfl⟩
    have hyes : shapeC c = true → S := fun h => hS ▸ hs h
    generalize hR : vB (shapesT t) = R at hno ⊢
    clear ha hs hoc
    unfold shapeC noneE at hno hyes
    obtain ⟨nm, kd, cols, ck, tb, refs⟩ := c
    simp only at h1 h2 el1 el2 hno hyes
    obtain ⟨k, op, v, n, kids⟩ := ck
    conv => whnf
    refine Is.callB h1 fun nb hnb => ?_
    rw [hnb] at hno hyes
    cases nb <;> conv => whnf
    all_goals repeat' (first | (refine ⟨fun h => ?_, fun h => ?_⟩ <;> conv => whnf) | (refine Is.callB (h2) fun b hb => ?_; cases b <;> conv => whnf) | fail)
    all_goals clear h1 h2
    all_goals simp only [List.length_map] at *
    all_goals first
      | (refine Fin.old (hno ?_) (.refl _); first | (simp [*]; done) | (simp_all; done) | (simp [*] <;> omega) | (have l1 : refs.length = cols.length := by omega; simp_all; done))
      | (refine ⟨hi', rfl, ⟨rfl, rfl, rfl, trivial⟩, (), trivial, .refl _, hS ▸ hyes ?_⟩; first | (simp [*]; done) | (simp_all; done) | (simp [*] <;> omega) | (have l1 : refs.length = cols.length := by omega; simp_all; done))
      | trace_state
  · obtain rfl := nlt_map ‹_› hi
    (refine Fin.old (congrArg vB ?_) (.refl _); symm; rw [shapesT]; exact all_take (by simpa using hx))
end Go.Proofs.Ytbmgenifdlgbmaa.D
namespace Go.Proofs.Ytbmgenifdlgbmaa.D
set_option linter.unusedVariables false
set_option linter.unusedSimpArgs false
open Go Go.Proofs.Ytbmgenifdlgbmaa.D.Pm
set_option maxRecDepth 4000
theorem addKey_len : ∀ (l ks : List ByteArray), ks.Nodup → ((l.foldl addKey ks).length = ks.length + l.length ↔ l.Nodup ∧ ∀ s ∈ l, s ∉ ks) ∧ (l.foldl addKey ks).length ≤ ks.length + l.length
  | [], ks, hk => by simp
  | s :: l, ks, hk => by
    rw [List.foldl_cons]
    by_cases hs : s ∈ ks
    · have e : addKey ks s = ks := by rw [addKey, if_pos (any_mem.2 hs)]
      rw [e]
      obtain ⟨h1, h2⟩ := addKey_len l ks hk
      refine ⟨⟨fun h => ?_, fun h => absurd hs (h.2 s (List.mem_cons_self ..))⟩, ?_⟩
      · simp only [List.length_cons] at h; omega
      · simp only [List.length_cons]; omega
    · have e : addKey ks s = ks ++ [s] := by rw [addKey, if_neg (fun h => hs (any_mem.1 h))]
      rw [e]
      have hk' : (ks ++ [s]).Nodup := by
        rw [List.nodup_append]
        refine ⟨hk, by simp, fun a ha b hb => ?_⟩
        simp at hb
        subst hb
        exact fun e => hs (e ▸ ha)
      obtain ⟨h1, h2⟩ := addKey_len l (ks ++ [s]) hk'
      simp only [List.length_append, List.length_cons, List.length_nil, Nat.zero_add] at h1 h2 ⊢
      refine ⟨⟨fun h => ?_, fun h => ?_⟩, by omega⟩
      · have h3 := h1.1 (by omega)
        refine ⟨List.nodup_cons.2 ⟨fun hm => h3.2 s hm (by simp), h3.1⟩, fun x hx => ?_⟩
        rcases List.mem_cons.1 hx with rfl | hx
        · exact hs
        · exact fun hk => h3.2 x hx (by simp [hk])
      · have h4 := List.nodup_cons.1 h.1
        have h5 := h1.2 ⟨h4.2, fun x hx hm => by
          rcases List.mem_append.1 hm with hm | hm
          · exact h.2 x (List.mem_cons_of_mem _ hx) hm
          · simp at hm; subst hm; exact h4.1 hx⟩
        omega
def unl (l : List ByteArray) : Bool := decide l.Nodup
theorem unlike_is (l : List ByteArray) (hl : l.length ≤ Big) : Is Try.prog 110 [.c (eS l)] (vB (unl l)) := by
  refine Is.of TP Try.func110 rfl rfl (Nat.le_of_ble_eq_true rfl) fun st => Pw.of TP [1] ?_
  conv => whnf
  refine Pw.newMap TP rfl rfl rfl rfl rfl (by decide) fun r => ?_
  refine PwE.seq (PwE.seq (PwE.pw (Pw.of TP [] ?_)))
  conv => whnf
  refine (PwE.block (PwE.loop (τ := Nat) (fun i => [(9, vI .i64 (i : Nat)), (3, .c (.v (.map (some r)))), (0, .c (eS l)), (7, .c (eS l)), (8, vI .i64 (l.map strC).length)]) (fun _ => st) (fun i => (l.take i).foldl addKey []) (fun i => i ≤ l.length) (fun i => l.length - i) ⟨0, by exact .mk ⟨rfl, rfl, rfl, rfl, rfl, trivial⟩ (.refl _), rfl, Nat.zero_le _⟩ fun i hi => ?_))
  refine PwE.seq (PwE.pw (Pw.of TP [] ?_))
  conv => whnf
  refine ⟨fun h => ?_, fun h => ?_⟩
  · have hi' := lt_map ‹_›
    have hs := foldl_take addKey [] hi'
    have k2 := fun F => ixm (f := strC) (F := F) hi'
    generalize l[i] = s at hs k2
    conv => whnf
    refine PwE.seq (PwE.pw (Pw.of TP [] ?_))
    conv => whnf
    refine PwE.seq (PwE.block (PwE.seq (PwE.pw (Pw.of TP [] ?_))))
    conv => whnf
    refine k2 _ ?_
    conv => whnf
    refine PwE.region TP (spM_ok TP) ?_
    conv => whnf
    refine .inr ?_
    conv => whnf
    refine .inr ?_
    conv => whnf
    refine .inl ⟨rfl, _, _, _, _, s, rfl, rfl, rfl, rfl, rfl, rfl, ?_⟩
    conv => whnf
    refine PwE.pw (Pw.of TP [] ?_)
    conv => whnf
    refine ⟨i + 1, .mk ⟨?_, rfl, rfl, rfl, rfl, trivial⟩ (.refl _), hs, hi', by omega⟩
    exact congrArg (fun n => some (vI .i64 n)) (wrap_nat (Nat.le_of_lt hi') hl)
  · obtain rfl := nlt_map ‹_› hi
    conv => whnf
    refine PwE.seq (PwE.pw (Pw.of TP [] ?_))
    conv => whnf
    rw [List.take_length]
    generalize hks : l.foldl addKey [] = ks
    refine PwE.seq (PwE.region TP (spM_ok TP) ?_)
    conv => whnf
    refine .inr ?_
    conv => whnf
    refine .inl ⟨rfl, _, _, _, _, _, rfl, rfl, rfl, rfl, rfl, ?_⟩
    conv => whnf
    refine .inr ?_
    conv => whnf
    refine .inr ?_
    conv => whnf
    refine .inr ?_
    conv => whnf
    obtain ⟨h1, h2⟩ := addKey_len l [] List.nodup_nil
    rw [hks] at h1 h2
    have hu : unl l = decide (ks.length = l.length) := by
      rw [unl, Bool.eq_iff_iff, decide_eq_true_iff, decide_eq_true_iff]
      have h3 : ∀ s ∈ l, s ∉ ([] : List ByteArray) := fun s _ h => by cases h
      constructor
      · intro hn; have := h1.2 ⟨hn, h3⟩; simpa using this
      · intro hn; exact (h1.1 (by simpa using hn)).1
    refine ⟨fun h => ?_, fun h => ?_⟩ <;> conv => whnf
    all_goals refine .inr ?_
    all_goals conv => whnf
    all_goals refine PwE.pw (Pw.of TP [] ?_)
    all_goals conv => whnf
    · (refine Fin.old (congrArg vB ?_) (.refl _); rw [hu]; symm; exact decide_eq_true (by rw [List.length_map] at h; omega))
    · (refine Fin.old (congrArg vB ?_) (.refl _); rw [hu]; symm; exact decide_eq_false (by rw [List.length_map] at h; omega))
end Go.Proofs.Ytbmgenifdlgbmaa.D
namespace Go.Proofs.Ytbmgenifdlgbmaa.D
set_option linter.unusedVariables false
set_option linter.unusedSimpArgs false
open Go Go.Proofs.Ytbmgenifdlgbmaa.D.Pm
set_option maxRecDepth 4000
def onceC (x : Con) : Bool := unl x.cols && unl x.refs
def onceI (x : Ix) : Bool := unl x.cols
def onceT (t : Tbl) : Bool := unl (t.cols.map (·.name)) && (unl (namesT t) && (t.cons.all onceC && t.idx.all onceI))
theorem namesT_len (t : Tbl) (ok : okT t) : (namesT t).length ≤ 24 := by
  have h1 := ok.2.2.2.1.1
  have h2 := ok.2.2.2.2.1
  rw [namesT, List.length_append, List.length_map, List.length_map]; omega
theorem once_is (t : Tbl) (ok : okT t) : Is Try.prog 59 [.g (eT t)] (vB (onceT t)) := by
  obtain ⟨hl1, o1⟩ := ok.2.2.1
  obtain ⟨hl2, o2⟩ := ok.2.2.2.1
  obtain ⟨hl3, o3⟩ := ok.2.2.2.2
  have u1 := unlike_is (t.cols.map (·.name)) (by rw [List.length_map]; exact big12 hl1)
  have u2 := unlike_is (namesT t) (by have := namesT_len t ok; unfold Big; omega)
  refine Is.of TP Try.func59 rfl rfl (Nat.le_of_ble_eq_true rfl) fun st => Pw.of TP [1] ?_
  conv => whnf
  refine Pw.cut (τ := Bool) [1] (fun b => [(3, vB b)]) (fun _ => st) (fun b => b = (unl (t.cols.map (·.name)) && unl (namesT t))) (Pw.of TP [] ?_) fun b hb => Pw.of TP [] ?_
  · conv => whnf
    refine Is.call (columns_is t ok) ?_
    conv => whnf
    refine Is.callB u1 fun b hb => ?_
    cases b <;> conv => whnf
    · exact ⟨⟨rfl, trivial⟩, _, ⟨rfl, trivial⟩, .refl _, by rw [hb]; rfl⟩
    · refine Is.call (tnames_is t ok) ?_
      conv => whnf
      refine Is.callB u2 fun b hb => ?_
      cases b <;> conv => whnf
      all_goals exact ⟨⟨rfl, trivial⟩, _, ⟨rfl, trivial⟩, .refl _, by simp [*]⟩
  conv => whnf
  refine Pw.rng (τ := Bool) 19 t.cons.length (big12 hl2) [1, 17, 18] (fun b => [(3, vB b)]) (fun i b => b = (unl (t.cols.map (·.name)) && unl (namesT t) && (t.cons.take i).all onceC)) b rfl ⟨rfl, trivial⟩ (by simp [hb]) fun i b hi hx => Pw.of TP [] ?_
  conv => whnf
  repeat' (first | (refine ⟨fun h => ?_, fun h => ?_⟩ <;> conv => whnf) | fail)
  · have hi' := lt_map ‹_›
    refine ixm hi' ?_
    have hs := all_take2 (p := onceC) hi'
    have hoc := o2 _ (List.getElem_mem hi')
    generalize t.cons[i] = c at hs hoc ⊢
    have v1 := unlike_is c.cols (big12 hoc.2.1.1)
    have v2 := unlike_is c.refs (big12 hoc.2.2.2.2.1)
    have hoc : onceC c = (unl c.cols && unl c.refs) := rfl
    obtain ⟨nm, kd, cols, ⟨k, op, v, n, kids⟩, tb, refs⟩ := c
    simp only at v1 v2 hoc
    rw [hoc] at hs
    cases b <;> conv => whnf
    · exact ⟨hi', rfl, ⟨rfl, rfl, rfl, trivial⟩, false, ⟨rfl, trivial⟩, .refl _, by rw [hs, ← Bool.and_assoc, ← hx]; rfl⟩
    · refine Is.callB v1 fun b hb => ?_
      cases b <;> conv => whnf
      · exact ⟨hi', rfl, ⟨rfl, rfl, rfl, trivial⟩, false, ⟨rfl, trivial⟩, .refl _, by rw [hs, ← Bool.and_assoc, ← hx, hb]; rfl⟩
      · refine Is.callB v2 fun b hb2 => ?_
        cases b <;> conv => whnf
        all_goals exact ⟨hi', rfl, ⟨rfl, rfl, rfl, trivial⟩, _, ⟨rfl, trivial⟩, .refl _, by rw [hs, ← Bool.and_assoc, ← hx, hb, hb2]; rfl⟩
  obtain rfl := nlt_map ‹_› hi
  rw [List.take_length] at hx
  refine Pw.rng (τ := Bool) 38 t.idx.length (big12 hl3) [1, 36, 37] (fun b => [(3, vB b)]) (fun i b => b = (unl (t.cols.map (·.name)) && unl (namesT t) && t.cons.all onceC && (t.idx.take i).all onceI)) b rfl ⟨rfl, trivial⟩ (by simp [hx]) fun i b hi hx => Pw.of TP [] ?_
  conv => whnf
  repeat' (first | (refine ⟨fun h => ?_, fun h => ?_⟩ <;> conv => whnf) | fail)
  · have hi' := lt_map ‹_›
    refine ixm hi' ?_
    have hs := all_take2 (p := onceI) hi'
    have hoc := o3 _ (List.getElem_mem hi')
    generalize t.idx[i] = c at hs hoc ⊢
    have v1 := unlike_is c.cols (big12 hoc.2.1)
    cases b <;> conv => whnf
    · exact ⟨hi', rfl, ⟨rfl, rfl, rfl, trivial⟩, false, ⟨rfl, trivial⟩, .refl _, by rw [hs, ← Bool.and_assoc, ← hx]; rfl⟩
    · refine Is.callB v1 fun b hb => ?_
      cases b <;> conv => whnf
      all_goals exact ⟨hi', rfl, ⟨rfl, rfl, rfl, trivial⟩, _, ⟨rfl, trivial⟩, .refl _, by rw [hs, ← Bool.and_assoc, ← hx, onceI, hb]; rfl⟩
  obtain rfl := nlt_map ‹_› hi
  rw [List.take_length] at hx
  (refine Fin.old (congrArg vB ?_) (.refl _); rw [hx, onceT]; simp only [Bool.and_assoc])
def checkT (t : Tbl) : Nat :=
  if namedT t = false then 18 else if kindsT t = false then 2 else if countsT t = false then 3 else if onceT t = false then 19 else if thereT t = false then 4 else if checksT t ≠ 0 then checksT t else if shapesT t = false then 2 else 0
set_option maxHeartbeats 1000000 in
theorem tcheck_is (t : Tbl) (ok : okT t) : Is Try.prog 19 [.g (eT t)] (vI .i64 (checkT t : Nat)) := by
  refine Is.of TP Try.func19 rfl rfl (Nat.le_of_ble_eq_true rfl) fun st => Pw.of TP [] ?_
  conv => whnf
  refine Is.callB (named_is t ok) fun b hb => ?_
  cases b <;> conv => whnf
  · exact Fin.old (congrArg (vI .i64) (by rw [checkT, if_pos hb]; rfl)) (.refl _)
  refine Is.callB (kinds_is t ok) fun b hb2 => ?_
  cases b <;> conv => whnf
  · exact Fin.old (congrArg (vI .i64) (by rw [checkT, if_neg (by simp [hb]), if_pos hb2]; rfl)) (.refl _)
  refine Is.callB (counts_is t ok) fun b hb3 => ?_
  cases b <;> conv => whnf
  · exact Fin.old (congrArg (vI .i64) (by rw [checkT, if_neg (by simp [hb]), if_neg (by simp [hb2]), if_pos hb3]; rfl)) (.refl _)
  refine Is.callB (once_is t ok) fun b hb4 => ?_
  cases b <;> conv => whnf
  · exact Fin.old (congrArg (vI .i64) (by rw [checkT, if_neg (by simp [hb]), if_neg (by simp [hb2]), if_neg (by simp [hb3]), if_pos hb4]; rfl)) (.refl _)
  refine Is.callB (there_is t ok) fun b hb5 => ?_
  cases b <;> conv => whnf
  · exact Fin.old (congrArg (vI .i64) (by rw [checkT, if_neg (by simp [hb]), if_neg (by simp [hb2]), if_neg (by simp [hb3]), if_neg (by simp [hb4]), if_pos hb5]; rfl)) (.refl _)
  have e0 : checkT t = if checksT t ≠ 0 then checksT t else if shapesT t = false then 2 else 0 := by
    rw [checkT, if_neg (by simp [hb]), if_neg (by simp [hb2]), if_neg (by simp [hb3]), if_neg (by simp [hb4]), if_neg (by simp [hb5])]
  rw [e0]
  refine Is.callI (checks_is t ok) fun c hc => ?_
  have hc' : c = (checksT t : Nat) := hc.symm
  conv => whnf
  repeat' (first | (refine ⟨fun h => ?_, fun h => ?_⟩ <;> conv => whnf) | fail)
  · exact Fin.old (congrArg (vI .i64) (by rw [if_pos (by omega)]; exact hc')) (.refl _)
  rw [if_neg (by omega)]
  refine Is.callB (shapes_is t ok) fun b hb6 => ?_
  cases b <;> conv => whnf
  · exact Fin.old (congrArg (vI .i64) (by rw [if_pos hb6]; rfl)) (.refl _)
  · exact Fin.old (congrArg (vI .i64) (by rw [if_neg (by simp [hb6])]; rfl)) (.refl _)
end Go.Proofs.Ytbmgenifdlgbmaa.D
namespace Go.Proofs.Ytbmgenifdlgbmaa.D
set_option linter.unusedVariables false
set_option linter.unusedSimpArgs false
open Go Go.Proofs.Ytbmgenifdlgbmaa.D.Pm
set_option maxRecDepth 4000
def cl1 : Cl := ⟨⟨#[97]⟩, 1, false⟩
def tbl1 : Tbl := ⟨⟨#[116]⟩, ⟨#[114, 111, 111, 116]⟩, 0, [cl1], [], []⟩
def tbl2 : Tbl := ⟨⟨#[116]⟩, ⟨#[114, 111, 111, 116]⟩, 0, [cl1, cl1], [], []⟩
instance (s : ByteArray) : Decidable (okS s) := inferInstanceAs (Decidable (s.size ≤ 100))
theorem ok1 : okT tbl1 := by refine ⟨by decide, by decide, ⟨by decide, ?_⟩, ⟨by decide, ?_⟩, ⟨by decide, ?_⟩⟩ <;> intro c hc <;> simp [tbl1] at hc; subst hc; decide
theorem ok2 : okT tbl2 := by refine ⟨by decide, by decide, ⟨by decide, ?_⟩, ⟨by decide, ?_⟩, ⟨by decide, ?_⟩⟩ <;> intro c hc <;> simp [tbl2] at hc; subst hc; decide
theorem check1 : checkT tbl1 = 0 := by decide +kernel
theorem check2 : checkT tbl2 = 19 := by decide +kernel
theorem col1 : colT tbl1 ⟨#[97]⟩ = 0 := by decide +kernel
def tcs1 : List AC := [.v (.string ⟨#[116]⟩), .v (.string ⟨#[114, 111, 111, 116]⟩), .v (.int .i64 0), .sl 3 [eCl cl1], .v (.slice none 0 0), .v (.slice none 0 0)]
theorem works14_is : Is Try.prog 18 [] (vB true) := by
  refine Is.of TP Try.func18 rfl rfl (Nat.le_of_ble_eq_true rfl) fun st => Pw.of TP [1000002] ?_
  conv => whnf
  intro id1 h1
  conv => whnf
  refine ⟨_, upd_same _ _ _, by decide, ?_⟩
  conv => whnf
  refine Pw.drwC TP mixed [0, 3, 6, 7, 8] (by kernel_rfl) ?_; conv => whnf
  intro id2 h2
  conv => whnf
  refine Grow.app (z := ⟨.st [(0, 9), (1, 3), (2, 4)], 3, 32, [.string ⟨#[]⟩, .int .i64 0, .bool false]⟩) (st0 := st) (rows := []) ⟨((Le.upd h1).up2 h1).up h2, .inr ⟨id2, rfl, upd_same _ _ _, (Le.none ((Le.upd h1).up2 h1) h2)⟩⟩ (by decide) (by decide) fun a3 st3 hg3 hk3 => ?_
  conv => whnf
  refine Grow.app (z := ⟨.st [(0, 9), (1, 3), (2, 4)], 3, 32, [.string ⟨#[]⟩, .int .i64 0, .bool false]⟩) hg3 (by decide) (by decide) fun a4 st4 hg4 hk4 => ?_
  conv => whnf
  have hg : Grow st 3 st4 a4 [eCl cl1, eCl cl1] := hg4
  have hs0 : upd (upd st id1 (.bx ([.string ⟨#[]⟩, .string ⟨#[]⟩, .int .i64 0, .slice none 0 0, .slice none 0 0, .slice none 0 0].map AC.v))) id1 (.bx tcs1) id1 = some (.bx tcs1) := upd_same _ _ _
  have hs1 := hk3 id1 _ (upd_old (o' := .ar 3 []) h2 hs0) (fun n e => fresh_ne h2 hs0 (by cases e; rfl))
  have hs2 : st4 id1 = some (.bx tcs1) := hk4 id1 _ hs1 (fun n e => by
    subst e
    rcases hg3.2 with ⟨h1, _⟩ | ⟨i, h1, h2, _⟩
    · cases h1
    · cases h1; rw [hs1] at h2; cases h2)
  clear hg4 hk4 hk3 hs1 hg3 hs0 h2
  refine ⟨_, hs2, Nat.le_of_ble_eq_true rfl, ?_⟩
  conv => whnf
  refine Is.call (fun st => Does.argsD (as' := [.g (eT tbl1)]) (fun _ => false) (fun id o h => ⟨h, rfl⟩) rfl ?_ (tcheck_is tbl1 ok1 st)) ?_
  · intro j r r' q1 q2
    match j, q1, q2 with
    | 0, q1, q2 => cases q1; cases q2; exact .gl (.cons (.refl _) (.cons (.refl _) (.cons (.refl _) (.cons (.refl _) (.cons (.nil 12) (.cons (.nil 2) .nil))))))
    | j + 1, q1, q2 => simp at q2
  rw [check1]
  conv => whnf
  refine ⟨fun _ => ?_, fun h => absurd rfl h⟩
  conv => whnf
  refine ⟨_, upd_same _ _ _, ?_⟩
  conv => whnf
  have hle : Le st (upd st4 id1 (.bx (putAt tcs1 3 [a4]))) := hg.1.up2 h1
  have hD : ∃ D : Nat → Bool, Fz D (upd st4 id1 (.bx (putAt tcs1 3 [a4]))) a4 (.sl 3 [eCl cl1, eCl cl1]) ∧ ∀ i, D i = true → st i = none := by
    rcases hg.2 with ⟨_, h⟩ | ⟨id, rfl, h2, h3⟩
    · cases h
    · have hne : id ≠ id1 := fun e => by rw [e, hs2] at h2; cases h2
      refine ⟨only id, Fz.arr0 (by simp [only]) (by rw [upd_ne _ hne]; exact h2) (fun r hr => by simp at hr; rw [hr]; rfl), fun i hi => ?_⟩
      have : i = id := by simpa [only] using hi
      rw [this]; exact h3
  obtain ⟨D, hf, hd⟩ := hD
  refine Does.argsD (as' := [.g (eT tbl2)]) (st' := st) D (fun id o ho => ⟨hle id o ho, ?_⟩) rfl ?_ ((tcheck_is tbl2 ok2).call ?_)
  · cases h : D id with
    | false => rfl
    | true => rw [hd id h] at ho; cases ho
  · intro j r r' q1 q2
    match j, q1, q2 with
    | 0, q1, q2 => cases q1; cases q2; exact .gl (.cons (.refl _) (.cons (.refl _) (.cons (.refl _) (.cons hf (.cons (.nil 12) (.cons (.nil 2) .nil))))))
    | j + 1, q1, q2 => simp at q2
  rw [check2]
  conv => whnf
  refine ⟨fun _ => ?_, fun h => absurd rfl h⟩
  conv => whnf
  refine Is.call (fun st => Does.argsD (as' := [.g (eT tbl1), vS ⟨#[97]⟩]) (fun _ => false) (fun id o h => ⟨h, rfl⟩) rfl ?_ (tcol_is tbl1 ok1 ⟨#[97]⟩ st)) ?_
  · intro j r r' q1 q2
    match j, q1, q2 with
    | 0, q1, q2 => cases q1; cases q2; exact .gl (.cons (.refl _) (.cons (.refl _) (.cons (.refl _) (.cons (.refl _) (.cons (.nil 12) (.cons (.nil 2) .nil))))))
    | 1, q1, q2 => cases q1; cases q2; exact .refl _
    | j + 2, q1, q2 => simp at q2
  rw [col1]
  conv => whnf
  refine ⟨fun _ => ?_, fun h => absurd rfl h⟩
  conv => whnf
  exact Fin.old rfl (.refl _)
end Go.Proofs.Ytbmgenifdlgbmaa.D
