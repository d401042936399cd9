/- Words and contracts: a plain machine over the model, and what the functions that a law reaches come to, each for every input that its theorem names. -/
import Derived.Test.YtbmgenifdlgbmaaC1
import Derived.Test.YtbmgenifdlgbmaaP2
namespace Go.Proofs.Ytbmgenifdlgbmaa.D
set_option linter.unusedVariables false
set_option linter.unusedSimpArgs false
open Go Go.Proofs.Ytbmgenifdlgbmaa.D.Pm
set_option maxRecDepth 4000
structure Cl where
  name : ByteArray
  typ : Int
  nn : Bool
structure Con where
  name : ByteArray
  kind : Int
  cols : List ByteArray
  check : Ex
  table : ByteArray
  refs : List ByteArray
structure Ix where
  name : ByteArray
  cols : List ByteArray
structure Tbl where
  name : ByteArray
  owner : ByteArray
  version : Int
  cols : List Cl
  cons : List Con
  idx : List Ix
def eCl (c : Cl) : List AC := [.v (.string c.name), .v (.int .i64 c.typ), .v (.bool c.nn)]
def eCon (x : Con) : List AC := .v (.string x.name) :: .v (.int .i64 x.kind) :: eS x.cols :: (eE x.check ++ [.v (.string x.table), eS x.refs])
def eIx (x : Ix) : List AC := [.v (.string x.name), eS x.cols]
def eT (t : Tbl) : List AC := [.v (.string t.name), .v (.string t.owner), .v (.int .i64 t.version), .sl 3 (t.cols.map eCl), .sl 12 (t.cons.map eCon), .sl 2 (t.idx.map eIx)]
def okS (s : ByteArray) : Prop := s.size ≤ 100
def okSs (l : List ByteArray) : Prop := l.length ≤ 12 ∧ ∀ s ∈ l, okS s
def okC (x : Con) : Prop := okS x.name ∧ okSs x.cols ∧ (okE x.check ∧ nodes x.check ≤ 60) ∧ okS x.table ∧ okSs x.refs
def okI (x : Ix) : Prop := okS x.name ∧ okSs x.cols
def okT (t : Tbl) : Prop := okS t.name ∧ okS t.owner ∧ (t.cols.length ≤ 12 ∧ ∀ c ∈ t.cols, okS c.name) ∧ (t.cons.length ≤ 12 ∧ ∀ x ∈ t.cons, okC x) ∧ (t.idx.length ≤ 12 ∧ ∀ x ∈ t.idx, okI x)
theorem okS.lt {s : ByteArray} (h : okS s) : s.size < Big := by unfold okS at h; unfold Big; omega
theorem big12 {n : Nat} (h : n ≤ 12) : n ≤ Big := by unfold Big; omega
theorem all_take2 {α : Type} {p : α → Bool} {l : List α} {i : Nat} (h : i < l.length) : (l.take (i + 1)).all p = ((l.take i).all p && p l[i]) := by
  rw [List.take_add_one, List.getElem?_eq_getElem h, List.all_append]; simp
theorem map_take2 {α β : Type} {f : α → β} {l : List α} {i : Nat} (h : i < l.length) : (l.take (i + 1)).map f = (l.take i).map f ++ [f l[i]] := by
  rw [List.take_add_one, List.getElem?_eq_getElem h, List.map_append]; rfl
theorem flat_take2 {α β : Type} {f : α → List β} {l : List α} {i : Nat} (h : i < l.length) : (l.take (i + 1)).flatMap f = (l.take i).flatMap f ++ f l[i] := by
  rw [List.take_add_one, List.getElem?_eq_getElem h, List.flatMap_append]; simp
theorem strC_row (l : List ByteArray) : ∀ r ∈ l.map strC, r.length = 1 := fun r hr => by obtain ⟨x, _, rfl⟩ := List.mem_map.1 hr; rfl
def keyed (n : Nat) : Bool := decide (1 ≤ n) && decide (n ≤ 3)
theorem keyed_is (l : List ByteArray) : Is Try.prog 109 [.c (eS l)] (vB (keyed l.length)) := by
  refine Is.of TP Try.func109 rfl rfl (Nat.le_of_ble_eq_true rfl) fun st => Pw.of TP [] ?_
  conv => whnf
  have el : (l.map strC).length = l.length := List.length_map ..
  repeat' (first | (refine ⟨fun h => ?_, fun h => ?_⟩ <;> conv => whnf) | fail)
  all_goals rw [el] at *
  all_goals generalize l.length = n at *
  all_goals (refine Fin.old (congrArg vB ?_) (.refl _); first | (simp [keyed]; omega) | (rw [keyed, decide_eq_true (by omega), decide_eq_true (by omega)]; rfl))
theorem columns_is (t : Tbl) (ok : okT t) : Is Try.prog 111 [.g (eT t)] (.c (eS (t.cols.map (·.name)))) := by
  have hb := big12 ok.2.2.1.1
  have hl := ok.2.2.1.1
  refine Is.of TP Try.func111 rfl rfl (Nat.le_of_ble_eq_true rfl) fun st => Pw.of TP [] ?_
  conv => whnf
  refine Pw.rngS (τ := AC × Sto) 9 t.cols.length hb [7, 8] (fun _ y => [(3, .c y.1)]) (fun _ y => y.2) (fun i y => Grow st 1 y.2 y.1 (((t.cols.take i).map (·.name)).map strC)) (.v (.slice none 0 0), st) rfl ⟨rfl, trivial⟩ (.refl _) (.nil (.refl _)) fun i y hi hg => Pw.of TP [] ?_
  obtain ⟨a, s⟩ := y
  simp only at hg ⊢
  conv => whnf
  repeat' (first | (refine ⟨fun h => ?_, fun h => ?_⟩ <;> conv => whnf) | fail)
  · have hi' := lt_map ‹_›
    refine ixm hi' ?_
    have hs := map_take2 (f := Cl.name) hi'
    generalize t.cols[i] = c at hs ⊢
    conv => whnf
    refine Grow.app (z := ⟨.s, 1, 16, [.string ⟨#[]⟩]⟩) hg (by simp [maxLen]; omega) (by simp; omega) fun a' st' hg' hk => ?_
    conv => whnf
    exact ⟨hi', rfl, ⟨rfl, rfl, trivial⟩, (a', st'), ⟨rfl, trivial⟩, .refl _, by rw [hs, List.map_append]; exact hg'⟩
  · obtain rfl := nlt_map ‹_› hi
    rw [List.take_length] at hg
    exact Fin.grow hg (strC_row _) ⟨rfl, rfl⟩
end Go.Proofs.Ytbmgenifdlgbmaa.D
namespace Go.Proofs.Ytbmgenifdlgbmaa.D
set_option linter.unusedVariables false
set_option linter.unusedSimpArgs false
open Go Go.Proofs.Ytbmgenifdlgbmaa.D.Pm
set_option maxRecDepth 4000
def namesT (t : Tbl) : List ByteArray := t.cons.map (·.name) ++ t.idx.map (·.name)
theorem tnames_is (t : Tbl) (ok : okT t) : Is Try.prog 73 [.g (eT t)] (.c (eS (namesT t))) := by
  have hl := ok.2.2.2.1.1
  have hl2 := ok.2.2.2.2.1
  refine Is.of TP Try.func73 rfl rfl (Nat.le_of_ble_eq_true rfl) fun st => Pw.of TP [] ?_
  conv => whnf
  refine Pw.rngS (τ := AC × Sto) 11 t.cons.length (big12 hl) [1, 9, 10] (fun _ y => [(3, .c y.1)]) (fun _ y => y.2) (fun i y => Grow st 1 y.2 y.1 (((t.cons.take i).map (·.name)).map strC)) (.v (.slice none 0 0), st) rfl ⟨rfl, trivial⟩ (.refl _) (.nil (.refl _)) fun i y hi hg => Pw.of TP [] ?_
  obtain ⟨a, s⟩ := y
  simp only at hg ⊢
  conv => whnf
  repeat' (first | (refine ⟨fun h => ?_, fun h => ?_⟩ <;> conv => whnf) | fail)
  · have hi' := lt_map ‹_›
    refine ixm hi' ?_
    have hs := map_take2 (f := Con.name) hi'
    generalize t.cons[i] = c at hs ⊢
    obtain ⟨nm, kd, cols, ⟨k, op, v, n, kids⟩, tb, refs⟩ := c
    conv => whnf
    refine Grow.app (z := ⟨.s, 1, 16, [.string ⟨#[]⟩]⟩) hg (by simp [maxLen]; omega) (by simp; omega) fun a' st' hg' hk => ?_
    conv => whnf
    exact ⟨hi', rfl, ⟨rfl, rfl, rfl, trivial⟩, (a', st'), ⟨rfl, trivial⟩, .refl _, by rw [hs, List.map_append]; exact hg'⟩
  · obtain rfl := nlt_map ‹_› hi
    rw [List.take_length] at hg
    refine Pw.rngS (τ := AC × Sto) 24 t.idx.length (big12 hl2) [1, 22, 23] (fun _ y => [(3, .c y.1)]) (fun _ y => y.2) (fun i y => Grow st 1 y.2 y.1 ((t.cons.map (·.name) ++ (t.idx.take i).map (·.name)).map strC)) (a, s) rfl ⟨rfl, trivial⟩ (.refl _) (by simpa using hg) fun i y hi hg => Pw.of TP [] ?_
    obtain ⟨a, s⟩ := y
    simp only at hg ⊢
    conv => whnf
    repeat' (first | (refine ⟨fun h => ?_, fun h => ?_⟩ <;> conv => whnf) | fail)
    · have hi' := lt_map ‹_›
      refine ixm hi' ?_
      have hs := map_take2 (f := Ix.name) hi'
      generalize t.idx[i] = c at hs ⊢
      conv => whnf
      refine Grow.app (z := ⟨.s, 1, 16, [.string ⟨#[]⟩]⟩) hg (by simp [maxLen]; omega) (by simp; omega) fun a' st' hg' hk => ?_
      conv => whnf
      exact ⟨hi', rfl, ⟨rfl, rfl, rfl, trivial⟩, (a', st'), ⟨rfl, trivial⟩, .refl _, by rw [hs, ← List.append_assoc, List.map_append]; exact hg'⟩
    · obtain rfl := nlt_map ‹_› hi
      rw [List.take_length] at hg
      exact Fin.grow hg (strC_row _) ⟨rfl, rfl⟩
def namedT (t : Tbl) : Bool := isName t.name && (isName t.owner && (t.cols.all (fun c => isName c.name) && (t.cons.all (fun c => isName c.name) && t.idx.all (fun c => isName c.name))))
theorem named_is (t : Tbl) (ok : okT t) : Is Try.prog 56 [.g (eT t)] (vB (namedT t)) := by
  have n1 := isName_is t.name ok.1.lt
  have n2 := isName_is t.owner ok.2.1.lt
  obtain ⟨hl1, o1⟩ := ok.2.2.1
  obtain ⟨hl2, o2⟩ := ok.2.2.2.1
  obtain ⟨hl3, o3⟩ := ok.2.2.2.2
  refine Is.of TP Try.func56 rfl rfl (Nat.le_of_ble_eq_true rfl) fun st => Pw.of TP [1] ?_
  conv => whnf
  refine Pw.cut (τ := Bool) [1] (fun b => [(3, vB b)]) (fun _ => st) (fun b => b = (isName t.name && isName t.owner)) (Pw.of TP [] ?_) fun b hb => Pw.of TP [] ?_
  · conv => whnf
    repeat' (first | (refine ⟨fun h => ?_, fun h => ?_⟩ <;> conv => whnf) | (refine Is.callB (n1) fun b hb => ?_; cases b <;> conv => whnf) | (refine Is.callB (n2) fun b hb => ?_; cases b <;> conv => whnf) | fail)
    all_goals exact ⟨⟨rfl, trivial⟩, _, ⟨rfl, trivial⟩, .refl _, by simp [*]⟩
  conv => whnf
  refine Pw.rng (τ := Bool) 21 t.cols.length (big12 hl1) [1, 19, 20] (fun b => [(3, vB b)]) (fun i b => b = (isName t.name && isName t.owner && (t.cols.take i).all (fun c => isName c.name))) b rfl ⟨rfl, trivial⟩ (by simp [hb]) fun i b hi hx => Pw.of TP [] ?_
  conv => whnf
  repeat' (first | (refine ⟨fun h => ?_, fun h => ?_⟩ <;> conv => whnf) | fail)
  · have hi' := lt_map ‹_›
    refine ixm hi' ?_
    have hs := all_take2 (p := fun c : Cl => isName c.name) hi'
    have hn := isName_is t.cols[i].name (o1 _ (List.getElem_mem hi')).lt
    generalize t.cols[i] = c at hs hn ⊢
    cases b <;> conv => whnf
    · exact ⟨hi', rfl, ⟨rfl, rfl, rfl, trivial⟩, false, ⟨rfl, trivial⟩, .refl _, by rw [hs, ← Bool.and_assoc, ← hx]; rfl⟩
    · refine Is.callB hn fun b hb => ?_
      cases b <;> conv => whnf
      all_goals exact ⟨hi', rfl, ⟨rfl, rfl, rfl, trivial⟩, _, ⟨rfl, trivial⟩, .refl _, by rw [hs, ← Bool.and_assoc, ← hx, hb]; rfl⟩
  obtain rfl := nlt_map ‹_› hi
  rw [List.take_length] at hx
  refine Pw.rng (τ := Bool) 35 t.cons.length (big12 hl2) [1, 33, 34] (fun b => [(3, vB b)]) (fun i b => b = (isName t.name && isName t.owner && t.cols.all (fun c => isName c.name) && (t.cons.take i).all (fun c => isName c.name))) b rfl ⟨rfl, trivial⟩ (by simp [hx]) fun i b hi hx => Pw.of TP [] ?_
  conv => whnf
  repeat' (first | (refine ⟨fun h => ?_, fun h => ?_⟩ <;> conv => whnf) | fail)
  · have hi' := lt_map ‹_›
    refine ixm hi' ?_
    have hs := all_take2 (p := fun c : Con => isName c.name) hi'
    have hn := isName_is t.cons[i].name (o2 _ (List.getElem_mem hi')).1.lt
    generalize t.cons[i] = c at hs hn ⊢
    obtain ⟨nm, kd, cols, ⟨k, op, v, n, kids⟩, tb, refs⟩ := c
    cases b <;> conv => whnf
    · exact ⟨hi', rfl, ⟨rfl, rfl, rfl, trivial⟩, false, ⟨rfl, trivial⟩, .refl _, by rw [hs, ← Bool.and_assoc, ← hx]; rfl⟩
    · refine Is.callB hn fun b hb => ?_
      cases b <;> conv => whnf
      all_goals exact ⟨hi', rfl, ⟨rfl, rfl, rfl, trivial⟩, _, ⟨rfl, trivial⟩, .refl _, by rw [hs, ← Bool.and_assoc, ← hx]; simp only; rw [hb]; rfl⟩
  obtain rfl := nlt_map ‹_› hi
  rw [List.take_length] at hx
  refine Pw.rng (τ := Bool) 49 t.idx.length (big12 hl3) [1, 47, 48] (fun b => [(3, vB b)]) (fun i b => b = (isName t.name && isName t.owner && t.cols.all (fun c => isName c.name) && t.cons.all (fun c => isName c.name) && (t.idx.take i).all (fun c => isName c.name))) b rfl ⟨rfl, trivial⟩ (by simp [hx]) fun i b hi hx => Pw.of TP [] ?_
  conv => whnf
  repeat' (first | (refine ⟨fun h => ?_, fun h => ?_⟩ <;> conv => whnf) | fail)
  · have hi' := lt_map ‹_›
    refine ixm hi' ?_
    have hs := all_take2 (p := fun c : Ix => isName c.name) hi'
    have hn := isName_is t.idx[i].name (o3 _ (List.getElem_mem hi')).1.lt
    generalize t.idx[i] = c at hs hn ⊢
    cases b <;> conv => whnf
    · exact ⟨hi', rfl, ⟨rfl, rfl, rfl, trivial⟩, false, ⟨rfl, trivial⟩, .refl _, by rw [hs, ← Bool.and_assoc, ← hx]; rfl⟩
    · refine Is.callB hn fun b hb => ?_
      cases b <;> conv => whnf
      all_goals exact ⟨hi', rfl, ⟨rfl, rfl, rfl, trivial⟩, _, ⟨rfl, trivial⟩, .refl _, by rw [hs, ← Bool.and_assoc, ← hx, hb]; rfl⟩
  obtain rfl := nlt_map ‹_› hi
  rw [List.take_length] at hx
  (refine Fin.old (congrArg vB ?_) (.refl _); rw [hx, namedT]; simp only [Bool.and_assoc])
end Go.Proofs.Ytbmgenifdlgbmaa.D
namespace Go.Proofs.Ytbmgenifdlgbmaa.D
set_option linter.unusedVariables false
set_option linter.unusedSimpArgs false
open Go Go.Proofs.Ytbmgenifdlgbmaa.D.Pm
set_option maxRecDepth 4000
def typOkC (c : Cl) : Bool := decide (1 ≤ c.typ) && decide (c.typ ≤ 3)
def kindOkC (c : Con) : Bool := decide (1 ≤ c.kind) && decide (c.kind ≤ 3)
def kindsT (t : Tbl) : Bool := decide (0 ≤ t.version) && (t.cols.all typOkC && t.cons.all kindOkC)
theorem kinds_is (t : Tbl) (ok : okT t) : Is Try.prog 57 [.g (eT t)] (vB (kindsT t)) := by
  obtain ⟨hl1, o1⟩ := ok.2.2.1
  obtain ⟨hl2, o2⟩ := ok.2.2.2.1
  refine Is.of TP Try.func57 rfl rfl (Nat.le_of_ble_eq_true rfl) fun st => Pw.of TP [1] ?_
  conv => whnf
  refine Pw.cut (τ := Bool) [1] (fun b => [(3, vB b)]) (fun _ => st) (fun b => b = decide (0 ≤ t.version)) (Pw.of TP [] ?_) fun b hb => Pw.of TP [] ?_
  · conv => whnf
    repeat' (first | (refine ⟨fun h => ?_, fun h => ?_⟩ <;> conv => whnf) | fail)
    all_goals exact ⟨⟨rfl, trivial⟩, _, ⟨rfl, trivial⟩, .refl _, by simp [*] <;> omega⟩
  conv => whnf
  refine Pw.rng (τ := Bool) 14 t.cols.length (big12 hl1) [1, 12, 13] (fun b => [(3, vB b)]) (fun i b => b = (decide (0 ≤ t.version) && (t.cols.take i).all typOkC)) b rfl ⟨rfl, trivial⟩ (by simp [hb]) fun i b hi hx => Pw.of TP [] ?_
  conv => whnf
  repeat' (first | (refine ⟨fun h => ?_, fun h => ?_⟩ <;> conv => whnf) | fail)
  · have hi' := lt_map ‹_›
    refine ixm hi' ?_
    have hs := all_take2 (p := typOkC) hi'
    generalize t.cols[i] = c at hs ⊢
    cases b <;> conv => whnf
    · exact ⟨hi', rfl, ⟨rfl, rfl, rfl, trivial⟩, false, ⟨rfl, trivial⟩, .refl _, by rw [hs, ← Bool.and_assoc, ← hx]; rfl⟩
    · repeat' (first | (refine ⟨fun h => ?_, fun h => ?_⟩ <;> conv => whnf) | fail)
      all_goals exact ⟨hi', rfl, ⟨rfl, rfl, rfl, trivial⟩, _, ⟨rfl, trivial⟩, .refl _, by rw [hs, ← Bool.and_assoc, ← hx]; simp [typOkC, *] <;> omega⟩
  obtain rfl := nlt_map ‹_› hi
  rw [List.take_length] at hx
  refine Pw.rng (τ := Bool) 33 t.cons.length (big12 hl2) [1, 31, 32] (fun b => [(3, vB b)]) (fun i b => b = (decide (0 ≤ t.version) && t.cols.all typOkC && (t.cons.take i).all kindOkC)) b rfl ⟨rfl, trivial⟩ (by simp [hx]) fun i b hi hx => Pw.of TP [] ?_
  conv => whnf
  repeat' (first | (refine ⟨fun h => ?_, fun h => ?_⟩ <;> conv => whnf) | fail)
  · have hi' := lt_map ‹_›
    refine ixm hi' ?_
    have hs := all_take2 (p := kindOkC) hi'
    generalize t.cons[i] = c at hs ⊢
    obtain ⟨nm, kd, cols, ⟨k, op, v, n, kids⟩, tb, refs⟩ := c
    cases b <;> conv => whnf
    · exact ⟨hi', rfl, ⟨rfl, rfl, rfl, trivial⟩, false, ⟨rfl, trivial⟩, .refl _, by rw [hs, ← Bool.and_assoc, ← hx]; rfl⟩
    · repeat' (first | (refine ⟨fun h => ?_, fun h => ?_⟩ <;> conv => whnf) | fail)
      all_goals exact ⟨hi', rfl, ⟨rfl, rfl, rfl, trivial⟩, _, ⟨rfl, trivial⟩, .refl _, by rw [hs, ← Bool.and_assoc, ← hx]; simp [kindOkC, *] <;> omega⟩
  obtain rfl := nlt_map ‹_› hi
  rw [List.take_length] at hx
  (refine Fin.old (congrArg vB ?_) (.refl _); rw [hx, kindsT]; simp only [Bool.and_assoc])
def countC (c : Con) : Bool := (decide (c.kind = 2) || keyed c.cols.length) && (!decide (c.kind = 3) || keyed c.refs.length)
def countI (c : Ix) : Bool := keyed c.cols.length
def lensT (t : Tbl) : Bool := decide (1 ≤ t.cols.length) && (decide (t.cols.length ≤ 6) && (decide (t.cons.length ≤ 6) && decide (t.idx.length ≤ 3)))
def countsT (t : Tbl) : Bool := lensT t && (t.cons.all countC && t.idx.all countI)
theorem counts_is (t : Tbl) (ok : okT t) : Is Try.prog 58 [.g (eT t)] (vB (countsT t)) := by
  obtain ⟨hl2, o2⟩ := ok.2.2.2.1
  obtain ⟨hl3, o3⟩ := ok.2.2.2.2
  have el1 : (t.cols.map eCl).length = t.cols.length := List.length_map ..
  have el2 : (t.cons.map eCon).length = t.cons.length := List.length_map ..
  have el3 : (t.idx.map eIx).length = t.idx.length := List.length_map ..
  refine Is.of TP Try.func58 rfl rfl (Nat.le_of_ble_eq_true rfl) fun st => Pw.of TP [1] ?_
  conv => whnf
  refine Pw.cut (τ := Bool) [1] (fun b => [(3, vB b)]) (fun _ => st) (fun b => b = lensT t) (Pw.of TP [] ?_) fun b hb => Pw.of TP [] ?_
  · conv => whnf
    repeat' (first | (refine ⟨fun h => ?_, fun h => ?_⟩ <;> conv => whnf) | fail)
    all_goals rw [el1] at *
    all_goals refine ⟨⟨rfl, trivial⟩, _, ⟨rfl, trivial⟩, .refl _, ?_⟩
    all_goals first | (symm; simp only [lensT, Bool.and_eq_true, decide_eq_true_eq]; omega) | (symm; simp only [lensT, Bool.and_eq_false_iff, decide_eq_false_iff_not]; omega)
  conv => whnf
  refine Pw.rng (τ := Bool) 33 t.cons.length (big12 hl2) [1, 31, 32] (fun b => [(3, vB b)]) (fun i b => b = (lensT t && (t.cons.take i).all countC)) b rfl ⟨rfl, trivial⟩ (by simp [hb]) fun i b hi hx => Pw.of TP [] ?_
  conv => whnf
  repeat' (first | (refine ⟨fun h => ?_, fun h => ?_⟩ <;> conv => whnf) | fail)
  · have hi' := lt_map ‹_›
    refine ixm hi' ?_
    have hs := all_take2 (p := countC) hi'
    generalize t.cons[i] = c at hs ⊢
    obtain ⟨nm, kd, cols, ⟨k, op, v, n, kids⟩, tb, refs⟩ := c
    cases b <;> conv => whnf
    · exact ⟨hi', rfl, ⟨rfl, rfl, rfl, trivial⟩, false, ⟨rfl, trivial⟩, .refl _, by rw [hs, ← Bool.and_assoc, ← hx]; rfl⟩
    · repeat' (first | (refine ⟨fun h => ?_, fun h => ?_⟩ <;> conv => whnf) | (refine Is.callB (keyed_is _) fun b hb => ?_; cases b <;> conv => whnf) | fail)
      all_goals exact ⟨hi', rfl, ⟨rfl, rfl, rfl, trivial⟩, _, ⟨rfl, trivial⟩, .refl _, by rw [hs, ← Bool.and_assoc, ← hx]; simp only [countC]; first | (simp [*]; done) | simp_all⟩
  obtain rfl := nlt_map ‹_› hi
  rw [List.take_length] at hx
  refine Pw.rng (τ := Bool) 62 t.idx.length (big12 hl3) [1, 60, 61] (fun b => [(3, vB b)]) (fun i b => b = (lensT t && t.cons.all countC && (t.idx.take i).all countI)) b rfl ⟨rfl, trivial⟩ (by simp [hx]) fun i b hi hx => Pw.of TP [] ?_
  conv => whnf
  repeat' (first | (refine ⟨fun h => ?_, fun h => ?_⟩ <;> conv => whnf) | fail)
  · have hi' := lt_map ‹_›
    refine ixm hi' ?_
    have hs := all_take2 (p := countI) hi'
    generalize t.idx[i] = c at hs ⊢
    cases b <;> conv => whnf
    · exact ⟨hi', rfl, ⟨rfl, rfl, rfl, trivial⟩, false, ⟨rfl, trivial⟩, .refl _, by rw [hs, ← Bool.and_assoc, ← hx]; rfl⟩
    · refine Is.callB (keyed_is _) fun b hb => ?_
      cases b <;> conv => whnf
      all_goals exact ⟨hi', rfl, ⟨rfl, rfl, rfl, trivial⟩, _, ⟨rfl, trivial⟩, .refl _, by rw [hs, ← Bool.and_assoc, ← hx, countI, hb]; rfl⟩
  obtain rfl := nlt_map ‹_› hi
  rw [List.take_length] at hx
  (refine Fin.old (congrArg vB ?_) (.refl _); rw [hx, countsT]; simp only [Bool.and_assoc])
end Go.Proofs.Ytbmgenifdlgbmaa.D
namespace Go.Proofs.Ytbmgenifdlgbmaa.D
set_option linter.unusedVariables false
set_option linter.unusedSimpArgs false
open Go Go.Proofs.Ytbmgenifdlgbmaa.D.Pm
set_option maxRecDepth 4000
theorem addName_len (out : List ByteArray) (e : Ex) : (addName out e).length ≤ out.length + 1 := by
  unfold addName; split
  · simp
  · omega
theorem foldName_len : ∀ (l : List Ex) (out : List ByteArray), (l.foldl addName out).length ≤ out.length + l.length
  | [], out => by simp
  | e :: l, out => by
    rw [List.foldl_cons, List.length_cons]
    have h1 := foldName_len l (addName out e)
    have h2 := addName_len out e
    omega
theorem namesE_len (e : Ex) : (namesE e).length ≤ nodes e := by
  rw [namesE, fold_parts, ← parts_len]
  have := foldName_len (parts e) []
  simpa using this
def usedC (x : Con) : List ByteArray := x.cols ++ (if x.kind = 2 then namesE x.check else [])
def usedT (t : Tbl) : List ByteArray := t.cons.flatMap usedC ++ t.idx.flatMap Ix.cols
theorem usedC_len {x : Con} (h : okC x) : (usedC x).length ≤ 72 := by
  have h1 := h.2.1.1
  have h2 := h.2.2.1.2
  have h3 := namesE_len x.check
  rw [usedC, List.length_append]
  split
  · omega
  · simp; omega
theorem used_is (t : Tbl) (ok : okT t) : Is Try.prog 72 [.g (eT t)] (.c (eS (usedT t))) := by
  obtain ⟨hl2, o2⟩ := ok.2.2.2.1
  obtain ⟨hl3, o3⟩ := ok.2.2.2.2
  refine Is.of TP Try.func72 rfl rfl (Nat.le_of_ble_eq_true rfl) fun st => Pw.of TP [] ?_
  conv => whnf
  refine Pw.rngS (τ := AC × Sto) 11 t.cons.length (big12 hl2) [1, 9, 10] (fun _ y => [(3, .c y.1)]) (fun _ y => y.2) (fun i y => Grow st 1 y.2 y.1 (((t.cons.take i).flatMap usedC).map strC) ∧ ((t.cons.take i).flatMap usedC).length ≤ 72 * i) (.v (.slice none 0 0), st) rfl ⟨rfl, trivial⟩ (.refl _) ⟨.nil (.refl _), by simp⟩ fun i y hi hg => Pw.of TP [] ?_
  obtain ⟨a, s⟩ := y
  obtain ⟨hg, hlen⟩ := hg
  simp only at hg ⊢
  conv => whnf
  repeat' (first | (refine ⟨fun h => ?_, fun h => ?_⟩ <;> conv => whnf) | fail)
  · have hi' := lt_map ‹_›
    refine ixm hi' ?_
    have hs := flat_take2 (f := usedC) hi'
    have hoc := o2 _ (List.getElem_mem hi')
    generalize t.cons[i] = c at hs hoc ⊢
    have hu := usedC_len hoc
    have hn := names_is c.check hoc.2.2.1.1 (by have := hoc.2.2.1.2; unfold Lim; omega)
    have hnl := namesE_len c.check
    have hcl := hoc.2.1.1
    have hcn := hoc.2.2.1.2
    have hun : usedC c = c.cols ++ (if c.kind = 2 then namesE c.check else []) := rfl
    obtain ⟨nm, kd, cols, ck, tb, refs⟩ := c
    simp only at hn hnl hcl hun hcn
    generalize hne : namesE ck = ne at hn hnl hun
    obtain ⟨k, op, v, n, kids⟩ := ck
    conv => whnf
    refine Grow.app (z := ⟨.s, 1, 16, [.string ⟨#[]⟩]⟩) hg (by simp only [List.length_map]; unfold maxLen; omega) (by simp only [List.length_map]; omega) fun a' st' hg' hk => ?_
    conv => whnf
    repeat' (first | (refine ⟨fun h => ?_, fun h => ?_⟩ <;> conv => whnf) | fail)
    · refine Is.call hn ?_
      conv => whnf
      refine Grow.app (z := ⟨.s, 1, 16, [.string ⟨#[]⟩]⟩) hg' (by simp only [List.length_map, List.length_append]; unfold maxLen; omega) (by simp only [List.length_map, List.length_append]; omega) fun a2 st2 hg2 hk2 => ?_
      conv => whnf
      refine ⟨hi', rfl, ⟨rfl, rfl, rfl, trivial⟩, (a2, st2), ⟨rfl, trivial⟩, .refl _, ?_, ?_⟩
      · rw [hs, hun, if_pos ‹_›, List.map_append, List.map_append, ← List.append_assoc]; exact hg2
      · rw [hs, List.length_append]; omega
    · refine ⟨hi', rfl, ⟨rfl, rfl, rfl, trivial⟩, (a', st'), ⟨rfl, trivial⟩, .refl _, ?_, ?_⟩
      · rw [hs, hun, if_neg ‹_›, List.append_nil, List.map_append]; exact hg'
      · rw [hs, List.length_append]; omega
  · obtain rfl := nlt_map ‹_› hi
    rw [List.take_length] at hg hlen
    refine Pw.rngS (τ := AC × Sto) 31 t.idx.length (big12 hl3) [1, 29, 30] (fun _ y => [(3, .c y.1)]) (fun _ y => y.2) (fun i y => Grow st 1 y.2 y.1 ((t.cons.flatMap usedC ++ (t.idx.take i).flatMap Ix.cols).map strC) ∧ ((t.idx.take i).flatMap Ix.cols).length ≤ 12 * i) (a, s) rfl ⟨rfl, trivial⟩ (.refl _) ⟨by simpa using hg, by simp⟩ fun i y hi hg => Pw.of TP [] ?_
    obtain ⟨a, s⟩ := y
    obtain ⟨hg, hlen2⟩ := hg
    simp only at hg ⊢
    conv => whnf
    repeat' (first | (refine ⟨fun h => ?_, fun h => ?_⟩ <;> conv => whnf) | fail)
    · have hi' := lt_map ‹_›
      refine ixm hi' ?_
      have hs := flat_take2 (f := Ix.cols) hi'
      have hcl := (o3 _ (List.getElem_mem hi')).2.1
      generalize t.idx[i] = c at hs hcl ⊢
      conv => whnf
      refine Grow.app (z := ⟨.s, 1, 16, [.string ⟨#[]⟩]⟩) hg (by simp only [List.length_map, List.length_append]; unfold maxLen; omega) (by simp only [List.length_map, List.length_append]; omega) fun a' st' hg' hk => ?_
      conv => whnf
      refine ⟨hi', rfl, ⟨rfl, rfl, rfl, trivial⟩, (a', st'), ⟨rfl, trivial⟩, .refl _, ?_, ?_⟩
      · rw [hs, ← List.append_assoc, List.map_append]; exact hg'
      · rw [hs, List.length_append]; omega
    · obtain rfl := nlt_map ‹_› hi
      rw [List.take_length] at hg
      exact Fin.grow hg (strC_row _) ⟨rfl, rfl⟩
end Go.Proofs.Ytbmgenifdlgbmaa.D
namespace Go.Proofs.Ytbmgenifdlgbmaa.D
set_option linter.unusedVariables false
set_option linter.unusedSimpArgs false
open Go Go.Proofs.Ytbmgenifdlgbmaa.D.Pm
set_option maxRecDepth 4000
theorem idxC_is (l : List Cl) (hl : l.length ≤ Big) (g : Nat) (caps : List AC) (p : Cl → Bool) (hf : ∀ e ∈ l, Is Try.prog g (.g (eCl e) :: caps.map .c) (vB (p e))) :
    Is Try.prog 69 [.c (.sl 3 (l.map eCl)), .c (.fn g caps)] (vI .i64 (idx p l)) := by
  refine Is.of TP Try.func69 rfl rfl (Nat.le_of_ble_eq_true rfl) fun st => Pw.of TP [] ?_
  conv => whnf
  refine Pw.rng (τ := Unit) 8 l.length hl [0, 1, 7] (fun _ => []) (fun i _ => ∀ x ∈ l.take i, p x = false) () rfl trivial (by simp) fun i _ hi hx => Pw.of TP [] ?_
  conv => whnf
  repeat' (first | (refine ⟨fun h => ?_, fun h => ?_⟩ <;> conv => whnf) | fail)
  · have hi' := lt_map ‹_›
    refine ixm hi' ?_
    have hm := hf l[i] (List.getElem_mem hi')
    have hs := take_snoc (Q := fun x => p x = false) hi' hx
    have ha := idx_at hi' hx
    generalize l[i] = e at hm hs ha ⊢
    conv => whnf
    refine Is.callB hm fun b hb => ?_
    cases b <;> conv => whnf
    · exact ⟨hi', rfl, ⟨rfl, rfl, rfl, trivial⟩, (), trivial, .refl _, hs hb⟩
    · exact Fin.old (congrArg (vI .i64) (ha hb).symm) (.refl _)
  · obtain rfl := nlt_map ‹_› hi
    exact Fin.old (congrArg (vI .i64) (idx_no (by simpa using hx)).symm) (.refl _)
theorem idxF_is (l : List ByteArray) (hl : l.length ≤ Big) (g : Nat) (caps : List AC) (p : ByteArray → Bool) (hf : ∀ e ∈ l, Is Try.prog g (vS e :: caps.map .c) (vB (p e))) :
    Is Try.prog 138 [.c (eS l), .c (.fn g caps)] (vI .i64 (idx p l)) := by
  refine Is.of TP Try.func138 rfl rfl (Nat.le_of_ble_eq_true rfl) fun st => Pw.of TP [] ?_
  conv => whnf
  refine Pw.rng (τ := Unit) 8 l.length hl [0, 1, 7] (fun _ => []) (fun i _ => ∀ x ∈ l.take i, p x = false) () rfl trivial (by simp) fun i _ hi hx => Pw.of TP [] ?_
  conv => whnf
  repeat' (first | (refine ⟨fun h => ?_, fun h => ?_⟩ <;> conv => whnf) | fail)
  · have hi' := lt_map ‹_›
    refine ixm hi' ?_
    have hm := hf l[i] (List.getElem_mem hi')
    have hs := take_snoc (Q := fun x => p x = false) hi' hx
    have ha := idx_at hi' hx
    generalize l[i] = e at hm hs ha ⊢
    conv => whnf
    refine Is.callB hm fun b hb => ?_
    cases b <;> conv => whnf
    · exact ⟨hi', rfl, ⟨rfl, rfl, rfl, trivial⟩, (), trivial, .refl _, hs hb⟩
    · exact Fin.old (congrArg (vI .i64) (ha hb).symm) (.refl _)
  · obtain rfl := nlt_map ‹_› hi
    exact Fin.old (congrArg (vI .i64) (idx_no (by simpa using hx)).symm) (.refl _)
theorem anyF_is (l : List ByteArray) (hl : l.length ≤ Big) (g : Nat) (caps : List AC) (p : ByteArray → Bool) (hf : ∀ e ∈ l, Is Try.prog g (vS e :: caps.map .c) (vB (p e))) :
    Is Try.prog 112 [.c (eS l), .c (.fn g caps)] (vB (l.any p)) := by
  refine Is.of TP Try.func112 rfl rfl (Nat.le_of_ble_eq_true rfl) fun st => Pw.of TP [] ?_
  conv => whnf
  refine Is.callI (idxF_is l hl g caps p hf) fun b hb => ?_
  conv => whnf
  repeat' (first | (refine ⟨fun h => ?_, fun h => ?_⟩ <;> conv => whnf) | fail)
  · (refine Fin.old (congrArg vB ?_) (.refl _); rw [← idx_any, hb]; exact (decide_eq_true ‹_›).symm)
  · (refine Fin.old (congrArg vB ?_) (.refl _); rw [← idx_any, hb]; exact (decide_eq_false ‹_›).symm)
theorem col1_is (c : Cl) (s : ByteArray) : Is Try.prog 70 [.g (eCl c), .c (.ep [.v (.string s)])] (vB (decide (c.name = s))) := by
  refine Is.of TP Try.func70 rfl rfl (Nat.le_of_ble_eq_true rfl) fun st => Pw.of TP [] ?_
  conv => whnf
  repeat' (first | (refine ⟨fun h => ?_, fun h => ?_⟩ <;> conv => whnf) | fail)
  all_goals (refine Fin.old (congrArg vB ?_) (.refl _); simp [*])
def colT (t : Tbl) (s : ByteArray) : Int := idx (fun c => decide (c.name = s)) t.cols
theorem tcol_is (t : Tbl) (ok : okT t) (s : ByteArray) : Is Try.prog 26 [.g (eT t), vS s] (vI .i64 (colT t s)) := by
  refine Is.of TP Try.func26 rfl rfl (Nat.le_of_ble_eq_true rfl) fun st => Pw.of TP [] ?_
  conv => whnf
  refine Is.callI (idxC_is t.cols (big12 ok.2.2.1.1) _ _ (fun c => decide (c.name = s)) fun c _ => col1_is c s) fun b hb => ?_
  conv => whnf
  exact Fin.old (congrArg (vI .i64) hb.symm) (.refl _)
theorem there1_is (t : Tbl) (ok : okT t) (s : ByteArray) : Is Try.prog 113 [vS s, .c (.ep (eT t))] (vB (decide (colT t s < 0))) := by
  refine Is.of TP Try.func113 rfl rfl (Nat.le_of_ble_eq_true rfl) fun st => Pw.of TP [] ?_
  conv => whnf
  refine Is.callI (tcol_is t ok s) fun b hb => ?_
  conv => whnf
  repeat' (first | (refine ⟨fun h => ?_, fun h => ?_⟩ <;> conv => whnf) | fail)
  all_goals (refine Fin.old (congrArg vB ?_) (.refl _); rw [hb]; simp [*])
def thereT (t : Tbl) : Bool := !(usedT t).any fun s => decide (colT t s < 0)
theorem flat_len {α β : Type} (f : α → List β) (m : Nat) : ∀ l : List α, (∀ x ∈ l, (f x).length ≤ m) → (l.flatMap f).length ≤ l.length * m
  | [], _ => by simp
  | a :: l, h => by
    rw [List.flatMap_cons, List.length_append, List.length_cons, Nat.succ_mul]
    have h1 := h a (List.mem_cons_self ..)
    have h2 := flat_len f m l (fun x hx => h x (List.mem_cons_of_mem _ hx))
    omega
theorem usedT_len (t : Tbl) (ok : okT t) : (usedT t).length ≤ 1008 := by
  have h1 := flat_len usedC 72 t.cons (fun x hx => usedC_len (ok.2.2.2.1.2 x hx))
  have h2 := flat_len Ix.cols 12 t.idx (fun x hx => (ok.2.2.2.2.2 x hx).2.1)
  have h3 := ok.2.2.2.1.1
  have h4 := ok.2.2.2.2.1
  rw [usedT, List.length_append]
  have h5 : t.cons.length * 72 ≤ 12 * 72 := Nat.mul_le_mul_right _ h3
  have h6 : t.idx.length * 12 ≤ 12 * 12 := Nat.mul_le_mul_right _ h4
  omega
theorem there_is (t : Tbl) (ok : okT t) : Is Try.prog 60 [.g (eT t)] (vB (thereT t)) := by
  refine Is.of TP Try.func60 rfl rfl (Nat.le_of_ble_eq_true rfl) fun st => Pw.of TP [] ?_
  conv => whnf
  refine Is.call (used_is t ok) ?_
  conv => whnf
  refine Is.callB (anyF_is (usedT t) (by have := usedT_len t ok; unfold Big; omega) _ _ _ fun s _ => there1_is t ok s) fun b hb => ?_
  cases b <;> conv => whnf
  all_goals (refine Fin.old (congrArg vB ?_) (.refl _); rw [thereT, hb])
end Go.Proofs.Ytbmgenifdlgbmaa.D
namespace Go.Proofs.Ytbmgenifdlgbmaa.D
set_option linter.unusedVariables false
set_option linter.unusedSimpArgs false
open Go Go.Proofs.Ytbmgenifdlgbmaa.D.Pm
set_option maxRecDepth 4000
/-- what one check's expression comes to -/
def chk1 (x : Con) : Nat := if checkE false x.check = 0 ∧ 0 < paramsE x.check then 2 else checkE false x.check
def stepC (w : Nat) (x : Con) : Nat := if x.kind = 2 then (if chk1 x = 17 ∨ w = 0 then max w (chk1 x) else w) else w
def checksT (t : Tbl) : Nat := t.cons.foldl stepC 0
theorem step_eq (w e : Nat) (q : Int) : (if (if e = 0 ∧ 0 < q then 2 else e) = 17 ∨ w = 0 then max w (if e = 0 ∧ 0 < q then 2 else e) else w) = (if e = 0 ∧ 0 < q then (if w = 0 then 2 else w) else if e = 17 ∨ w = 0 then max w e else w) := by
  by_cases hc : e = 0 ∧ 0 < q
  · simp only [if_pos hc]
    by_cases hw : w = 0 <;> simp [hw]
  · simp only [if_neg hc]
theorem checks_is (t : Tbl) (ok : okT t) : Is Try.prog 61 [.g (eT t)] (vI .i64 (checksT t : Nat)) := by
  obtain ⟨hl2, o2⟩ := ok.2.2.2.1
  refine Is.of TP Try.func61 rfl rfl (Nat.le_of_ble_eq_true rfl) fun st => Pw.of TP [] ?_
  conv => whnf
  refine Pw.rng (τ := Nat) 10 t.cons.length (big12 hl2) [1, 8, 9] (fun w => [(3, vI .i64 w)]) (fun i w => w = (t.cons.take i).foldl stepC 0) 0 rfl ⟨rfl, trivial⟩ rfl fun i w hi hx => Pw.of TP [] ?_
  conv => whnf
  repeat' (first | (refine ⟨fun h => ?_, fun h => ?_⟩ <;> conv => whnf) | fail)
  · have hi' := lt_map ‹_›
    refine ixm hi' ?_
    have hs := foldl_take stepC 0 hi'
    rw [← hx] at hs
    have hoc := o2 _ (List.getElem_mem hi')
    generalize t.cons[i] = c at hs hoc ⊢
    have h1 := check_is c.check hoc.2.2.1.1 false
    have h2 := params_is c.check hoc.2.2.1.1
    have hst : stepC w c = if c.kind = 2 then (if (if checkE false c.check = 0 ∧ 0 < paramsE c.check then 2 else checkE false c.check) = 17 ∨ w = 0 then max w (if checkE false c.check = 0 ∧ 0 < paramsE c.check then 2 else checkE false c.check) else w) else w := rfl
    clear hoc hx
    obtain ⟨nm, kd, cols, ck, tb, refs⟩ := c
    simp only at h1 h2 hst
    generalize checkE false ck = e at h1 hst
    generalize paramsE ck = q at h2 hst
    obtain ⟨k, op, v, n, kids⟩ := ck
    conv => whnf
    repeat' (first | (refine ⟨fun h => ?_, fun h => ?_⟩ <;> conv => whnf) | fail)
    · exact ⟨hi', rfl, ⟨rfl, rfl, rfl, trivial⟩, w, ⟨rfl, trivial⟩, .refl _, by rw [hs, hst, if_neg ‹_›]⟩
    · have hk2 : kd = 2 := Classical.not_not.1 ‹_›
      rw [if_pos hk2, step_eq] at hst
      refine Is.call h1 ?_
      conv => whnf
      repeat' (first | (refine ⟨fun h => ?_, fun h => ?_⟩ <;> conv => whnf) | (refine Is.call h2 ?_; conv => whnf) | fail)
      all_goals first
        | exact ⟨hi', rfl, ⟨rfl, rfl, rfl, trivial⟩, w, ⟨rfl, trivial⟩, .refl _, by rw [hs, hst]; (repeat' split) <;> omega⟩
        | exact ⟨hi', rfl, ⟨rfl, rfl, rfl, trivial⟩, max w 2, ⟨congrArg (fun n => some (vI .i64 n)) (show (if (2 : Int) > (w : Int) then (2 : Int) else (w : Int)) = ((max w 2 : Nat) : Int) by split <;> omega), trivial⟩, .refl _, by rw [hs, hst]; (repeat' split) <;> omega⟩
        | exact ⟨hi', rfl, ⟨rfl, rfl, rfl, trivial⟩, max w e, ⟨congrArg (fun n => some (vI .i64 n)) (show (if (e : Int) > (w : Int) then (e : Int) else (w : Int)) = ((max w e : Nat) : Int) by split <;> omega), trivial⟩, .refl _, by rw [hs, hst]; (repeat' split) <;> omega⟩
        | trace_state
  · obtain rfl := nlt_map ‹_› hi
    rw [List.take_length] at hx
    exact Fin.old (congrArg (vI .i64) (by rw [hx]; rfl)) (.refl _)
end Go.Proofs.Ytbmgenifdlgbmaa.D
namespace Go.Proofs.Ytbmgenifdlgbmaa.D
set_option linter.unusedVariables false
set_option linter.unusedSimpArgs false
open Go Go.Proofs.Ytbmgenifdlgbmaa.D.Pm
set_option maxRecDepth 4000
def zeroE : Ex := .mk 0 0 ⟨0, 0, ⟨#[]⟩⟩ ⟨#[]⟩ []
/-- the expression that is none, as it is made -/
def zcs : List AC := [.v (.int .i64 0), .v (.int .i64 0), .v (.int .i64 0), .v (.int .i64 0), .v (.string ⟨#[]⟩), .v (.string ⟨#[]⟩), .v (.slice none 0 0)]
theorem zcs_fv (st : Sto) : FV (fun _ => false) st (.g zcs) (.g (eE zeroE)) := by
  refine .g _ _ rfl fun j c c' h1 h2 => ?_
  match j, h1, h2 with
  | 0, h1, h2 => cases h1; cases h2; exact .refl _
  | 1, h1, h2 => cases h1; cases h2; exact .refl _
  | 2, h1, h2 => cases h1; cases h2; exact .refl _
  | 3, h1, h2 => cases h1; cases h2; exact .refl _
  | 4, h1, h2 => cases h1; cases h2; exact .refl _
  | 5, h1, h2 => cases h1; cases h2; exact .refl _
  | 6, h1, h2 => cases h1; cases h2; exact .nil 7
  | j + 7, h1, h2 => simp [zcs] at h1
theorem sameZ_is (f : Nat) (e : Ex) (h : Is Try.prog f [.g (eE e), .g (eE zeroE)] (vB (eqE e zeroE))) : Is Try.prog f [.g (eE e), .g zcs] (vB (eqE e zeroE)) := fun st => by
  refine Does.args ?_ ?_ (h st)
  · rfl
  · intro j r r' h1 h2
    match j, h1, h2 with
    | 0, h1, h2 => cases h1; cases h2; exact .refl _
    | 1, h1, h2 => cases h1; cases h2; exact zcs_fv st
    | j + 2, h1, h2 => simp at h1
def noneE (e : Ex) : Bool := eqE e zeroE
def shapeC (x : Con) : Bool :=
  if x.kind = 1 then noneE x.check && (decide (x.table = ⟨#[]⟩) && decide (x.refs.length = 0))
  else if x.kind = 2 then decide (x.cols.length = 0) && (decide (x.table = ⟨#[]⟩) && decide (x.refs.length = 0))
  else if x.kind = 3 then noneE x.check && (isName x.table && decide (x.refs.length = x.cols.length))
  else false
def shapesT (t : Tbl) : Bool := t.cons.all shapeC
theorem shapes_is (t : Tbl) (ok : okT t) : Is Try.prog 62 [.g (eT t)] (vB (shapesT t)) := by
  obtain ⟨hl2, o2⟩ := ok.2.2.2.1
  refine Is.of TP Try.func62 rfl rfl (Nat.le_of_ble_eq_true rfl) fun st => Pw.of TP [] ?_
  conv => whnf
  refine Pw.rng (τ := Unit) 10 t.cons.length (big12 hl2) [1, 8, 9] (fun _ => []) (fun i _ => ∀ x ∈ t.cons.take i, shapeC x = true) () rfl ⟨⟩ (by simp) fun i _ hi hx => Pw.of TP [] ?_
  conv => whnf
  repeat' (first | (refine ⟨fun h => ?_, fun h => ?_⟩ <;> conv => whnf) | fail)
  · have hi' := lt_map ‹_›
    refine ixm hi' ?_
    have hoc := o2 _ (List.getElem_mem hi')
    have hs := take_snoc (Q := fun x => shapeC x = true) hi' hx
    have ha := all_at (p := shapeC) hi'
    generalize t.cons[i] = c at hs ha hoc ⊢
    have h1 := sameZ_is _ _ (same_is c.check hoc.2.2.1.1 zeroE)
    have h2 := isName_is c.table hoc.2.2.2.1.lt
    have el1 : (c.cols.map strC).length = c.cols.length := List.length_map ..
    have el2 : (c.refs.map strC).length = c.refs.length := List.length_map ..
    have hno : shapeC c = false → vB false = vB (shapesT t) := fun h => by rw [shapesT, ha h]
    obtain ⟨S, hS⟩ : ∃ S : Prop, S = ∀ x ∈ t.cons.take (i + 1), shapeC x = true := ⟨_, rfl⟩
    have hyes : shapeC c = true → S := fun h => hS ▸ hs h
    generalize hR : vB (shapesT t) = R at hno ⊢
    clear ha hs hoc
    unfold shapeC noneE at hno hyes
    obtain ⟨nm, kd, cols, ck, tb, refs⟩ := c
    simp only at h1 h2 el1 el2 hno hyes
    obtain ⟨k, op, v, n, kids⟩ := ck
    conv => whnf
    refine Is.callB h1 fun nb hnb => ?_
    rw [hnb] at hno hyes
    cases nb <;> conv => whnf
    all_goals repeat' (first | (refine ⟨fun h => ?_, fun h => ?_⟩ <;> conv => whnf) | (refine Is.callB (h2) fun b hb => ?_; cases b <;> conv => whnf) | fail)
    all_goals clear h1 h2
    all_goals simp only [List.length_map] at *
    all_goals first
      | (refine Fin.old (hno ?_) (.refl _); first | (simp [*]; done) | (simp_all; done) | (simp [*] <;> omega) | (have l1 : refs.length = cols.length := by omega; simp_all; done))
      | (refine ⟨hi', rfl, ⟨rfl, rfl, rfl, trivial⟩, (), trivial, .refl _, hS ▸ hyes ?_⟩; first | (simp [*]; done) | (simp_all; done) | (simp [*] <;> omega) | (have l1 : refs.length = cols.length := by omega; simp_all; done))
      | trace_state
  · obtain rfl := nlt_map ‹_› hi
    (refine Fin.old (congrArg vB ?_) (.refl _); symm; rw [shapesT]; exact all_take (by simpa using hx))
end Go.Proofs.Ytbmgenifdlgbmaa.D
namespace Go.Proofs.Ytbmgenifdlgbmaa.D
set_option linter.unusedVariables false
set_option linter.unusedSimpArgs false
open Go Go.Proofs.Ytbmgenifdlgbmaa.D.Pm
set_option maxRecDepth 4000
theorem addKey_len : ∀ (l ks : List ByteArray), ks.Nodup → ((l.foldl addKey ks).length = ks.length + l.length ↔ l.Nodup ∧ ∀ s ∈ l, s ∉ ks) ∧ (l.foldl addKey ks).length ≤ ks.length + l.length
  | [], ks, hk => by simp
  | s :: l, ks, hk => by
    rw [List.foldl_cons]
    by_cases hs : s ∈ ks
    · have e : addKey ks s = ks := by rw [addKey, if_pos (any_mem.2 hs)]
      rw [e]
      obtain ⟨h1, h2⟩ := addKey_len l ks hk
      refine ⟨⟨fun h => ?_, fun h => absurd hs (h.2 s (List.mem_cons_self ..))⟩, ?_⟩
      · simp only [List.length_cons] at h; omega
      · simp only [List.length_cons]; omega
    · have e : addKey ks s = ks ++ [s] := by rw [addKey, if_neg (fun h => hs (any_mem.1 h))]
      rw [e]
      have hk' : (ks ++ [s]).Nodup := by
        rw [List.nodup_append]
        refine ⟨hk, by simp, fun a ha b hb => ?_⟩
        simp at hb
        subst hb
        exact fun e => hs (e ▸ ha)
      obtain ⟨h1, h2⟩ := addKey_len l (ks ++ [s]) hk'
      simp only [List.length_append, List.length_cons, List.length_nil, Nat.zero_add] at h1 h2 ⊢
      refine ⟨⟨fun h => ?_, fun h => ?_⟩, by omega⟩
      · have h3 := h1.1 (by omega)
        refine ⟨List.nodup_cons.2 ⟨fun hm => h3.2 s hm (by simp), h3.1⟩, fun x hx => ?_⟩
        rcases List.mem_cons.1 hx with rfl | hx
        · exact hs
        · exact fun hk => h3.2 x hx (by simp [hk])
      · have h4 := List.nodup_cons.1 h.1
        have h5 := h1.2 ⟨h4.2, fun x hx hm => by
          rcases List.mem_append.1 hm with hm | hm
          · exact h.2 x (List.mem_cons_of_mem _ hx) hm
          · simp at hm; subst hm; exact h4.1 hx⟩
        omega
def unl (l : List ByteArray) : Bool := decide l.Nodup
theorem unlike_is (l : List ByteArray) (hl : l.length ≤ Big) : Is Try.prog 110 [.c (eS l)] (vB (unl l)) := by
  refine Is.of TP Try.func110 rfl rfl (Nat.le_of_ble_eq_true rfl) fun st => Pw.of TP [1] ?_
  conv => whnf
  refine Pw.newMap TP rfl rfl rfl rfl rfl (by decide) fun r => ?_
  refine PwM.seq (PwM.seq (PwM.pw (Pw.of TP [] ?_)))
  conv => whnf
  refine (PwM.block (PwM.loop (σ := Nat) (fun i => [(9, vI .i64 (i : Nat)), (3, .c (.v (.map (some r)))), (0, .c (eS l)), (7, .c (eS l)), (8, vI .i64 (l.map strC).length)]) (fun _ => st) (fun i => (l.take i).foldl addKey []) (fun i => i ≤ l.length) (fun i => l.length - i) ⟨0, by exact .mk ⟨rfl, rfl, rfl, rfl, rfl, trivial⟩ (.refl _), rfl, Nat.zero_le _⟩ fun i hi => ?_))
  refine PwM.seq (PwM.pw (Pw.of TP [] ?_))
  conv => whnf
  refine ⟨fun h => ?_, fun h => ?_⟩
  · have hi' := lt_map ‹_›
    have hs := foldl_take addKey [] hi'
    have k2 := fun F => ixm (f := strC) (F := F) hi'
    generalize l[i] = s at hs k2
    conv => whnf
    refine PwM.seq (PwM.pw (Pw.of TP [] ?_))
    conv => whnf
    refine PwM.seq (PwM.block (PwM.seq (PwM.pw (Pw.of TP [] ?_))))
    conv => whnf
    refine k2 _ ?_
    conv => whnf
    refine PwM.region TP ?_
    conv => whnf
    refine ⟨rfl, ?_⟩
    conv => whnf
    refine ⟨rfl, ?_⟩
    conv => whnf
    refine ⟨rfl, _, _, _, _, s, rfl, rfl, rfl, rfl, rfl, rfl, ?_⟩
    conv => whnf
    refine PwM.pw (Pw.of TP [] ?_)
    conv => whnf
    refine ⟨i + 1, .mk ⟨?_, rfl, rfl, rfl, rfl, trivial⟩ (.refl _), hs, hi', by omega⟩
    exact congrArg (fun n => some (vI .i64 n)) (wrap_nat (Nat.le_of_lt hi') hl)
  · obtain rfl := nlt_map ‹_› hi
    conv => whnf
    refine PwM.seq (PwM.pw (Pw.of TP [] ?_))
    conv => whnf
    rw [List.take_length]
    generalize hks : l.foldl addKey [] = ks
    refine PwM.seq (PwM.region TP ?_)
    conv => whnf
    refine ⟨rfl, ?_⟩
    conv => whnf
    refine ⟨rfl, .inl ⟨_, _, _, _, _, rfl, rfl, rfl, rfl, rfl, ?_⟩⟩
    conv => whnf
    refine ⟨rfl, ?_⟩
    conv => whnf
    refine ⟨rfl, .inr ?_⟩
    conv => whnf
    refine ⟨rfl, ?_⟩
    conv => whnf
    obtain ⟨h1, h2⟩ := addKey_len l [] List.nodup_nil
    rw [hks] at h1 h2
    have hu : unl l = decide (ks.length = l.length) := by
      rw [unl, Bool.eq_iff_iff, decide_eq_true_iff, decide_eq_true_iff]
      have h3 : ∀ s ∈ l, s ∉ ([] : List ByteArray) := fun s _ h => by cases h
      constructor
      · intro hn; have := h1.2 ⟨hn, h3⟩; simpa using this
      · intro hn; exact (h1.1 (by simpa using hn)).1
    refine ⟨fun h => ?_, fun h => ?_⟩ <;> conv => whnf
    all_goals refine ⟨rfl, ?_⟩
    all_goals conv => whnf
    all_goals refine PwM.pw (Pw.of TP [] ?_)
    all_goals conv => whnf
    · (refine Fin.old (congrArg vB ?_) (.refl _); rw [hu]; symm; exact decide_eq_true (by rw [List.length_map] at h; omega))
    · (refine Fin.old (congrArg vB ?_) (.refl _); rw [hu]; symm; exact decide_eq_false (by rw [List.length_map] at h; omega))
end Go.Proofs.Ytbmgenifdlgbmaa.D
namespace Go.Proofs.Ytbmgenifdlgbmaa.D
set_option linter.unusedVariables false
set_option linter.unusedSimpArgs false
open Go Go.Proofs.Ytbmgenifdlgbmaa.D.Pm
set_option maxRecDepth 4000
def onceC (x : Con) : Bool := unl x.cols && unl x.refs
def onceI (x : Ix) : Bool := unl x.cols
def onceT (t : Tbl) : Bool := unl (t.cols.map (·.name)) && (unl (namesT t) && (t.cons.all onceC && t.idx.all onceI))
theorem namesT_len (t : Tbl) (ok : okT t) : (namesT t).length ≤ 24 := by
  have h1 := ok.2.2.2.1.1
  have h2 := ok.2.2.2.2.1
  rw [namesT, List.length_append, List.length_map, List.length_map]; omega
theorem once_is (t : Tbl) (ok : okT t) : Is Try.prog 59 [.g (eT t)] (vB (onceT t)) := by
  obtain ⟨hl1, o1⟩ := ok.2.2.1
  obtain ⟨hl2, o2⟩ := ok.2.2.2.1
  obtain ⟨hl3, o3⟩ := ok.2.2.2.2
  have u1 := unlike_is (t.cols.map (·.name)) (by rw [List.length_map]; exact big12 hl1)
  have u2 := unlike_is (namesT t) (by have := namesT_len t ok; unfold Big; omega)
  refine Is.of TP Try.func59 rfl rfl (Nat.le_of_ble_eq_true rfl) fun st => Pw.of TP [1] ?_
  conv => whnf
  refine Pw.cut (τ := Bool) [1] (fun b => [(3, vB b)]) (fun _ => st) (fun b => b = (unl (t.cols.map (·.name)) && unl (namesT t))) (Pw.of TP [] ?_) fun b hb => Pw.of TP [] ?_
  · conv => whnf
    refine Is.call (columns_is t ok) ?_
    conv => whnf
    refine Is.callB u1 fun b hb => ?_
    cases b <;> conv => whnf
    · exact ⟨⟨rfl, trivial⟩, _, ⟨rfl, trivial⟩, .refl _, by rw [hb]; rfl⟩
    · refine Is.call (tnames_is t ok) ?_
      conv => whnf
      refine Is.callB u2 fun b hb => ?_
      cases b <;> conv => whnf
      all_goals exact ⟨⟨rfl, trivial⟩, _, ⟨rfl, trivial⟩, .refl _, by simp [*]⟩
  conv => whnf
  refine Pw.rng (τ := Bool) 19 t.cons.length (big12 hl2) [1, 17, 18] (fun b => [(3, vB b)]) (fun i b => b = (unl (t.cols.map (·.name)) && unl (namesT t) && (t.cons.take i).all onceC)) b rfl ⟨rfl, trivial⟩ (by simp [hb]) fun i b hi hx => Pw.of TP [] ?_
  conv => whnf
  repeat' (first | (refine ⟨fun h => ?_, fun h => ?_⟩ <;> conv => whnf) | fail)
  · have hi' := lt_map ‹_›
    refine ixm hi' ?_
    have hs := all_take2 (p := onceC) hi'
    have hoc := o2 _ (List.getElem_mem hi')
    generalize t.cons[i] = c at hs hoc ⊢
    have v1 := unlike_is c.cols (big12 hoc.2.1.1)
    have v2 := unlike_is c.refs (big12 hoc.2.2.2.2.1)
    have hoc : onceC c = (unl c.cols && unl c.refs) := rfl
    obtain ⟨nm, kd, cols, ⟨k, op, v, n, kids⟩, tb, refs⟩ := c
    simp only at v1 v2 hoc
    rw [hoc] at hs
    cases b <;> conv => whnf
    · exact ⟨hi', rfl, ⟨rfl, rfl, rfl, trivial⟩, false, ⟨rfl, trivial⟩, .refl _, by rw [hs, ← Bool.and_assoc, ← hx]; rfl⟩
    · refine Is.callB v1 fun b hb => ?_
      cases b <;> conv => whnf
      · exact ⟨hi', rfl, ⟨rfl, rfl, rfl, trivial⟩, false, ⟨rfl, trivial⟩, .refl _, by rw [hs, ← Bool.and_assoc, ← hx, hb]; rfl⟩
      · refine Is.callB v2 fun b hb2 => ?_
        cases b <;> conv => whnf
        all_goals exact ⟨hi', rfl, ⟨rfl, rfl, rfl, trivial⟩, _, ⟨rfl, trivial⟩, .refl _, by rw [hs, ← Bool.and_assoc, ← hx, hb, hb2]; rfl⟩
  obtain rfl := nlt_map ‹_› hi
  rw [List.take_length] at hx
  refine Pw.rng (τ := Bool) 38 t.idx.length (big12 hl3) [1, 36, 37] (fun b => [(3, vB b)]) (fun i b => b = (unl (t.cols.map (·.name)) && unl (namesT t) && t.cons.all onceC && (t.idx.take i).all onceI)) b rfl ⟨rfl, trivial⟩ (by simp [hx]) fun i b hi hx => Pw.of TP [] ?_
  conv => whnf
  repeat' (first | (refine ⟨fun h => ?_, fun h => ?_⟩ <;> conv => whnf) | fail)
  · have hi' := lt_map ‹_›
    refine ixm hi' ?_
    have hs := all_take2 (p := onceI) hi'
    have hoc := o3 _ (List.getElem_mem hi')
    generalize t.idx[i] = c at hs hoc ⊢
    have v1 := unlike_is c.cols (big12 hoc.2.1)
    cases b <;> conv => whnf
    · exact ⟨hi', rfl, ⟨rfl, rfl, rfl, trivial⟩, false, ⟨rfl, trivial⟩, .refl _, by rw [hs, ← Bool.and_assoc, ← hx]; rfl⟩
    · refine Is.callB v1 fun b hb => ?_
      cases b <;> conv => whnf
      all_goals exact ⟨hi', rfl, ⟨rfl, rfl, rfl, trivial⟩, _, ⟨rfl, trivial⟩, .refl _, by rw [hs, ← Bool.and_assoc, ← hx, onceI, hb]; rfl⟩
  obtain rfl := nlt_map ‹_› hi
  rw [List.take_length] at hx
  (refine Fin.old (congrArg vB ?_) (.refl _); rw [hx, onceT]; simp only [Bool.and_assoc])
def checkT (t : Tbl) : Nat :=
  if namedT t = false then 18 else if kindsT t = false then 2 else if countsT t = false then 3 else if onceT t = false then 19 else if thereT t = false then 4 else if checksT t ≠ 0 then checksT t else if shapesT t = false then 2 else 0
set_option maxHeartbeats 1000000 in
theorem tcheck_is (t : Tbl) (ok : okT t) : Is Try.prog 19 [.g (eT t)] (vI .i64 (checkT t : Nat)) := by
  refine Is.of TP Try.func19 rfl rfl (Nat.le_of_ble_eq_true rfl) fun st => Pw.of TP [] ?_
  conv => whnf
  refine Is.callB (named_is t ok) fun b hb => ?_
  cases b <;> conv => whnf
  · exact Fin.old (congrArg (vI .i64) (by rw [checkT, if_pos hb]; rfl)) (.refl _)
  refine Is.callB (kinds_is t ok) fun b hb2 => ?_
  cases b <;> conv => whnf
  · exact Fin.old (congrArg (vI .i64) (by rw [checkT, if_neg (by simp [hb]), if_pos hb2]; rfl)) (.refl _)
  refine Is.callB (counts_is t ok) fun b hb3 => ?_
  cases b <;> conv => whnf
  · exact Fin.old (congrArg (vI .i64) (by rw [checkT, if_neg (by simp [hb]), if_neg (by simp [hb2]), if_pos hb3]; rfl)) (.refl _)
  refine Is.callB (once_is t ok) fun b hb4 => ?_
  cases b <;> conv => whnf
  · exact Fin.old (congrArg (vI .i64) (by rw [checkT, if_neg (by simp [hb]), if_neg (by simp [hb2]), if_neg (by simp [hb3]), if_pos hb4]; rfl)) (.refl _)
  refine Is.callB (there_is t ok) fun b hb5 => ?_
  cases b <;> conv => whnf
  · exact Fin.old (congrArg (vI .i64) (by rw [checkT, if_neg (by simp [hb]), if_neg (by simp [hb2]), if_neg (by simp [hb3]), if_neg (by simp [hb4]), if_pos hb5]; rfl)) (.refl _)
  have e0 : checkT t = if checksT t ≠ 0 then checksT t else if shapesT t = false then 2 else 0 := by
    rw [checkT, if_neg (by simp [hb]), if_neg (by simp [hb2]), if_neg (by simp [hb3]), if_neg (by simp [hb4]), if_neg (by simp [hb5])]
  rw [e0]
  refine Is.callI (checks_is t ok) fun c hc => ?_
  have hc' : c = (checksT t : Nat) := hc.symm
  conv => whnf
  repeat' (first | (refine ⟨fun h => ?_, fun h => ?_⟩ <;> conv => whnf) | fail)
  · exact Fin.old (congrArg (vI .i64) (by rw [if_pos (by omega)]; exact hc')) (.refl _)
  rw [if_neg (by omega)]
  refine Is.callB (shapes_is t ok) fun b hb6 => ?_
  cases b <;> conv => whnf
  · exact Fin.old (congrArg (vI .i64) (by rw [if_pos hb6]; rfl)) (.refl _)
  · exact Fin.old (congrArg (vI .i64) (by rw [if_neg (by simp [hb6])]; rfl)) (.refl _)
end Go.Proofs.Ytbmgenifdlgbmaa.D
namespace Go.Proofs.Ytbmgenifdlgbmaa.D
set_option linter.unusedVariables false
set_option linter.unusedSimpArgs false
open Go Go.Proofs.Ytbmgenifdlgbmaa.D.Pm
set_option maxRecDepth 4000
def cl1 : Cl := ⟨⟨#[97]⟩, 1, false⟩
def tbl1 : Tbl := ⟨⟨#[116]⟩, ⟨#[114, 111, 111, 116]⟩, 0, [cl1], [], []⟩
def tbl2 : Tbl := ⟨⟨#[116]⟩, ⟨#[114, 111, 111, 116]⟩, 0, [cl1, cl1], [], []⟩
instance (s : ByteArray) : Decidable (okS s) := inferInstanceAs (Decidable (s.size ≤ 100))
theorem ok1 : okT tbl1 := by refine ⟨by decide, by decide, ⟨by decide, ?_⟩, ⟨by decide, ?_⟩, ⟨by decide, ?_⟩⟩ <;> intro c hc <;> simp [tbl1] at hc; subst hc; decide
theorem ok2 : okT tbl2 := by refine ⟨by decide, by decide, ⟨by decide, ?_⟩, ⟨by decide, ?_⟩, ⟨by decide, ?_⟩⟩ <;> intro c hc <;> simp [tbl2] at hc; subst hc; decide
theorem check1 : checkT tbl1 = 0 := by decide +kernel
theorem check2 : checkT tbl2 = 19 := by decide +kernel
theorem col1 : colT tbl1 ⟨#[97]⟩ = 0 := by decide +kernel
def tcs1 : List AC := [.v (.string ⟨#[116]⟩), .v (.string ⟨#[114, 111, 111, 116]⟩), .v (.int .i64 0), .sl 3 [eCl cl1], .v (.slice none 0 0), .v (.slice none 0 0)]
theorem works14_is : Is Try.prog 18 [] (vB true) := by
  refine Is.of TP Try.func18 rfl rfl (Nat.le_of_ble_eq_true rfl) fun st => Pw.of TP [1000002] ?_
  conv => whnf
  intro id1 h1
  conv => whnf
  refine ⟨_, upd_same _ _ _, by decide, ?_⟩
  conv => whnf
  refine Pw.drwC TP mixed [0, 3, 6, 7, 8] (by kernel_rfl) ?_; conv => whnf
  intro id2 h2
  conv => whnf
  refine Grow.app (z := ⟨.st [(0, 9), (1, 3), (2, 4)], 3, 32, [.string ⟨#[]⟩, .int .i64 0, .bool false]⟩) (st0 := st) (rows := []) ⟨((Le.upd h1).up2 h1).up h2, .inr ⟨id2, rfl, upd_same _ _ _, (Le.none ((Le.upd h1).up2 h1) h2)⟩⟩ (by decide) (by decide) fun a3 st3 hg3 hk3 => ?_
  conv => whnf
  refine Grow.app (z := ⟨.st [(0, 9), (1, 3), (2, 4)], 3, 32, [.string ⟨#[]⟩, .int .i64 0, .bool false]⟩) hg3 (by decide) (by decide) fun a4 st4 hg4 hk4 => ?_
  conv => whnf
  have hg : Grow st 3 st4 a4 [eCl cl1, eCl cl1] := hg4
  have hs0 : upd (upd st id1 (.bx ([.string ⟨#[]⟩, .string ⟨#[]⟩, .int .i64 0, .slice none 0 0, .slice none 0 0, .slice none 0 0].map AC.v))) id1 (.bx tcs1) id1 = some (.bx tcs1) := upd_same _ _ _
  have hs1 := hk3 id1 _ (upd_old (o' := .ar 3 []) h2 hs0) (fun n e => fresh_ne h2 hs0 (by cases e; rfl))
  have hs2 : st4 id1 = some (.bx tcs1) := hk4 id1 _ hs1 (fun n e => by
    subst e
    rcases hg3.2 with ⟨h1, _⟩ | ⟨i, h1, h2, _⟩
    · cases h1
    · cases h1; rw [hs1] at h2; cases h2)
  clear hg4 hk4 hk3 hs1 hg3 hs0 h2
  refine ⟨_, hs2, Nat.le_of_ble_eq_true rfl, ?_⟩
  conv => whnf
  refine Is.call (fun st => Does.argsD (as' := [.g (eT tbl1)]) (fun _ => false) (fun id o h => ⟨h, rfl⟩) rfl ?_ (tcheck_is tbl1 ok1 st)) ?_
  · intro j r r' q1 q2
    match j, q1, q2 with
    | 0, q1, q2 => cases q1; cases q2; exact .gl (.cons (.refl _) (.cons (.refl _) (.cons (.refl _) (.cons (.refl _) (.cons (.nil 12) (.cons (.nil 2) .nil))))))
    | j + 1, q1, q2 => simp at q2
  rw [check1]
  conv => whnf
  refine ⟨fun _ => ?_, fun h => absurd rfl h⟩
  conv => whnf
  refine ⟨_, upd_same _ _ _, ?_⟩
  conv => whnf
  have hle : Le st (upd st4 id1 (.bx (putAt tcs1 3 [a4]))) := hg.1.up2 h1
  have hD : ∃ D : Nat → Bool, Fz D (upd st4 id1 (.bx (putAt tcs1 3 [a4]))) a4 (.sl 3 [eCl cl1, eCl cl1]) ∧ ∀ i, D i = true → st i = none := by
    rcases hg.2 with ⟨_, h⟩ | ⟨id, rfl, h2, h3⟩
    · cases h
    · have hne : id ≠ id1 := fun e => by rw [e, hs2] at h2; cases h2
      refine ⟨only id, Fz.arr0 (by simp [only]) (by rw [upd_ne _ hne]; exact h2) (fun r hr => by simp at hr; rw [hr]; rfl), fun i hi => ?_⟩
      have : i = id := by simpa [only] using hi
      rw [this]; exact h3
  obtain ⟨D, hf, hd⟩ := hD
  refine Does.argsD (as' := [.g (eT tbl2)]) (st' := st) D (fun id o ho => ⟨hle id o ho, ?_⟩) rfl ?_ ((tcheck_is tbl2 ok2).call ?_)
  · cases h : D id with
    | false => rfl
    | true => rw [hd id h] at ho; cases ho
  · intro j r r' q1 q2
    match j, q1, q2 with
    | 0, q1, q2 => cases q1; cases q2; exact .gl (.cons (.refl _) (.cons (.refl _) (.cons (.refl _) (.cons hf (.cons (.nil 12) (.cons (.nil 2) .nil))))))
    | j + 1, q1, q2 => simp at q2
  rw [check2]
  conv => whnf
  refine ⟨fun _ => ?_, fun h => absurd rfl h⟩
  conv => whnf
  refine Is.call (fun st => Does.argsD (as' := [.g (eT tbl1), vS ⟨#[97]⟩]) (fun _ => false) (fun id o h => ⟨h, rfl⟩) rfl ?_ (tcol_is tbl1 ok1 ⟨#[97]⟩ st)) ?_
  · intro j r r' q1 q2
    match j, q1, q2 with
    | 0, q1, q2 => cases q1; cases q2; exact .gl (.cons (.refl _) (.cons (.refl _) (.cons (.refl _) (.cons (.refl _) (.cons (.nil 12) (.cons (.nil 2) .nil))))))
    | 1, q1, q2 => cases q1; cases q2; exact .refl _
    | j + 2, q1, q2 => simp at q2
  rw [col1]
  conv => whnf
  refine ⟨fun _ => ?_, fun h => absurd rfl h⟩
  conv => whnf
  exact Fin.old rfl (.refl _)
end Go.Proofs.Ytbmgenifdlgbmaa.D
namespace Go.Proofs.Ytbmgenifdlgbmaa.D
set_option linter.unusedVariables false
set_option linter.unusedSimpArgs false
open Go Go.Proofs.Ytbmgenifdlgbmaa.D.Pm
set_option maxRecDepth 4000
abbrev zS : TI := ⟨.s, 1, 16, [.string ⟨#[]⟩]⟩
def short (s : ByteArray) : Bool := decide (s.size ≤ 100)
def fewC (x : Con) : Bool := decide (x.cols.length ≤ 12) && (decide (x.refs.length ≤ 12) && fewE 60 x.check)
def textsC (x : Con) : List ByteArray := [x.name, x.table] ++ x.cols ++ x.refs
def fewI (x : Ix) : Bool := decide (x.cols.length ≤ 12)
def textsI (x : Ix) : List ByteArray := [x.name] ++ x.cols
def lens12 (t : Tbl) : Bool := decide (t.cols.length ≤ 12) && (decide (t.cons.length ≤ 12) && decide (t.idx.length ≤ 12))
def textsT (t : Tbl) : List ByteArray := [t.name, t.owner] ++ t.cols.map (·.name) ++ t.cons.flatMap textsC ++ t.idx.flatMap textsI
def fewT (t : Tbl) : Bool := lens12 t && (t.cons.all fewC && (t.idx.all fewI && (textsT t).all short))
theorem rowS (a b : ByteArray) : [[AC.v (.string a)], [AC.v (.string b)]] = [a, b].map strC := rfl
theorem fewT_is (t : Tbl) : Is Try.prog 17 [.g (eT t)] (vB (fewT t)) := by
  have el1 : (t.cols.map eCl).length = t.cols.length := List.length_map ..
  have el2 : (t.cons.map eCon).length = t.cons.length := List.length_map ..
  have el3 : (t.idx.map eIx).length = t.idx.length := List.length_map ..
  refine Is.of TP Try.func17 rfl rfl (Nat.le_of_ble_eq_true rfl) fun st => Pw.of TP [1, 1000029] ?_
  conv => whnf
  refine Pw.cut (τ := Unit) [1] (fun _ => []) (fun _ => st) (fun _ => lens12 t = true) (Pw.of TP [] ?_) fun _ hl => Pw.of TP [1000029] ?_
  · conv => whnf
    repeat' (first | (refine ⟨fun h => ?_, fun h => ?_⟩ <;> conv => whnf) | fail)
    all_goals rw [el1] at *
    all_goals first
      | (refine Fin.old (congrArg vB ?_) (.refl _); symm; rw [fewT, show lens12 t = false from ?_]; rfl; simp only [lens12, Bool.and_eq_false_iff, decide_eq_false_iff_not]; omega)
      | (refine ⟨⟨rfl, trivial⟩, (), trivial, .refl _, ?_⟩; simp only [lens12, Bool.and_eq_true, decide_eq_true_eq]; omega)
  have hl' := hl
  simp only [lens12, Bool.and_eq_true, decide_eq_true_eq] at hl'
  obtain ⟨hl1, hl2, hl3⟩ := hl'
  conv => whnf
  intro id hid
  conv => whnf
  refine Pw.rngS (τ := AC × Sto) 4 t.cols.length (big12 hl1) [1] (fun _ y => [(3, .c y.1)]) (fun _ y => y.2) (fun i y => Grow st 1 y.2 y.1 (([t.name, t.owner] ++ (t.cols.take i).map (·.name)).map strC)) (.arr id 0 2, _) rfl ⟨rfl, trivial⟩ (.refl _) ⟨.upd hid, .inr ⟨id, rfl, upd_same _ _ _, hid⟩⟩ fun i y hi hg => Pw.of TP [] ?_
  obtain ⟨a, s⟩ := y
  simp only at hg ⊢
  conv => whnf
  repeat' (first | (refine ⟨fun h => ?_, fun h => ?_⟩ <;> conv => whnf) | fail)
  · have hi' := lt_map ‹_›
    refine ixm hi' ?_
    have hs := map_take2 (f := Cl.name) hi'
    generalize t.cols[i] = c at hs ⊢
    conv => whnf
    refine Grow.app (z := zS) hg (by simp only [List.length_map, List.length_append, List.length_cons, List.length_nil, List.length_set, List.length_replicate, List.length_take]; unfold maxLen; omega) (by simp only [List.length_map, List.length_append, List.length_cons, List.length_nil, List.length_set, List.length_replicate, List.length_take]; omega) fun a' st' hg' hk => ?_
    conv => whnf
    exact ⟨hi', rfl, ⟨rfl, trivial⟩, (a', st'), ⟨rfl, trivial⟩, .refl _, by rw [hs, ← List.append_assoc, List.map_append]; exact hg'⟩
  obtain rfl := nlt_map ‹_› hi
  rw [List.take_length] at hg
  refine Pw.rngS (τ := AC × Sto) 5 t.cons.length (big12 hl2) [1] (fun _ y => [(3, .c y.1)]) (fun _ y => y.2) (fun i y => Grow st 1 y.2 y.1 (([t.name, t.owner] ++ t.cols.map (·.name) ++ (t.cons.take i).flatMap textsC).map strC) ∧ ((t.cons.take i).flatMap textsC).length ≤ 26 * i ∧ ∀ x ∈ t.cons.take i, fewC x = true) (a, s) rfl ⟨rfl, trivial⟩ (.refl _) ⟨by simpa using hg, by simp, by simp⟩ fun i y hi hx => Pw.of TP [] ?_
  clear hg
  obtain ⟨a, s⟩ := y
  obtain ⟨hg, hlen, hall⟩ := hx
  simp only at hg ⊢
  conv => whnf
  repeat' (first | (refine ⟨fun h => ?_, fun h => ?_⟩ <;> conv => whnf) | fail)
  · have hi' := lt_map ‹_›
    refine ixm hi' ?_
    have hs := flat_take2 (f := textsC) hi'
    have hs2 := take_snoc (Q := fun x => fewC x = true) hi' hall
    have ha := all_at (p := fewC) hi'
    generalize t.cons[i] = c at hs hs2 ha ⊢
    have hf := few_is c.check 60 (by decide)
    have e1 : fewC c = (decide (c.cols.length ≤ 12) && (decide (c.refs.length ≤ 12) && fewE 60 c.check)) := rfl
    have e2 : textsC c = [c.name, c.table] ++ c.cols ++ c.refs := rfl
    rw [e1] at hs2 ha
    rw [e2] at hs
    have hno : (decide (c.cols.length ≤ 12) && (decide (c.refs.length ≤ 12) && fewE 60 c.check)) = false → vB false = vB (fewT t) := fun h => by rw [fewT, ha h]; simp
    clear ha e1 e2
    have el1 : (c.cols.map strC).length = c.cols.length := List.length_map ..
    have el2 : (c.refs.map strC).length = c.refs.length := List.length_map ..
    obtain ⟨nm, kd, cols, ck, tb, refs⟩ := c
    simp only at hf hs hs2 hno el1 el2
    generalize fewE 60 ck = fe at hf hs2 hno
    obtain ⟨k, op, v, n, kids⟩ := ck
    conv => whnf
    refine ⟨fun h1 => ?_, fun h1 => ?_⟩ <;> simp only [List.length_map] at h1 <;> conv => whnf
    · exact Fin.old (hno (by rw [decide_eq_false (by omega)]; rfl)) hg.le
    refine ⟨fun h2 => ?_, fun h2 => ?_⟩ <;> simp only [List.length_map] at h2 <;> conv => whnf
    · exact Fin.old (hno (by rw [decide_eq_false (show ¬ refs.length ≤ 12 by omega)]; simp)) hg.le
    refine Is.callB hf fun b hb => ?_
    cases b <;> conv => whnf
    · exact Fin.old (hno (by rw [hb]; simp)) hg.le
    have hok : (decide (cols.length ≤ 12) && (decide (refs.length ≤ 12) && fe)) = true := by
      rw [hb, decide_eq_true (by omega), decide_eq_true (by omega)]; rfl
    have h1' : cols.length ≤ 12 := by omega
    have h2' : refs.length ≤ 12 := by omega
    refine Grow.app (z := zS) hg (by simp only [List.length_map, List.length_append, List.length_cons, List.length_nil, List.length_set, List.length_replicate, List.length_take]; unfold maxLen; omega) (by simp only [List.length_map, List.length_append, List.length_cons, List.length_nil, List.length_set, List.length_replicate, List.length_take]; omega) fun a2 st2 hg2 hk2 => ?_
    conv => whnf
    refine Grow.app (z := zS) hg2 (by simp only [List.length_map, List.length_append, List.length_cons, List.length_nil, List.length_set, List.length_replicate, List.length_take]; unfold maxLen; omega) (by simp only [List.length_map, List.length_append, List.length_cons, List.length_nil, List.length_set, List.length_replicate, List.length_take]; omega) fun a3 st3 hg3 hk3 => ?_
    conv => whnf
    refine Grow.app (z := zS) hg3 (by simp only [List.length_map, List.length_append, List.length_cons, List.length_nil, List.length_set, List.length_replicate, List.length_take]; unfold maxLen; omega) (by simp only [List.length_map, List.length_append, List.length_cons, List.length_nil, List.length_set, List.length_replicate, List.length_take]; omega) fun a4 st4 hg4 hk4 => ?_
    conv => whnf
    refine ⟨hi', rfl, ⟨rfl, trivial⟩, (a4, st4), ⟨rfl, trivial⟩, .refl _, ?_, ?_, hs2 hok⟩
    · rw [hs]
      simp only [← List.append_assoc]
      rw [List.map_append, List.map_append, List.map_append]
      exact hg4
    · rw [hs]; simp only [List.length_append, List.length_cons, List.length_nil]; omega
  obtain rfl := nlt_map ‹_› hi
  rw [List.take_length] at hg hlen hall
  have hcons : t.cons.all fewC = true := all_take hall
  refine Pw.rngS (τ := AC × Sto) 7 t.idx.length (big12 hl3) [1] (fun _ y => [(3, .c y.1)]) (fun _ y => y.2) (fun i y => Grow st 1 y.2 y.1 (([t.name, t.owner] ++ t.cols.map (·.name) ++ t.cons.flatMap textsC ++ (t.idx.take i).flatMap textsI).map strC) ∧ ((t.idx.take i).flatMap textsI).length ≤ 13 * i ∧ ∀ x ∈ t.idx.take i, fewI x = true) (a, s) rfl ⟨rfl, trivial⟩ (.refl _) ⟨by simpa using hg, by simp, by simp⟩ fun i y hi hx => Pw.of TP [] ?_
  clear hg hall
  obtain ⟨a, s⟩ := y
  obtain ⟨hg, hlen2, hall⟩ := hx
  simp only at hg ⊢
  conv => whnf
  repeat' (first | (refine ⟨fun h => ?_, fun h => ?_⟩ <;> conv => whnf) | fail)
  · have hi' := lt_map ‹_›
    have k2 := fun F => ixm (f := eIx) (F := F) hi'
    refine k2 _ ?_
    have hs := flat_take2 (f := textsI) hi'
    have hs2 := take_snoc (Q := fun x => fewI x = true) hi' hall
    have ha := all_at (p := fewI) hi'
    generalize t.idx[i] = c at hs hs2 ha k2 ⊢
    have e1 : fewI c = decide (c.cols.length ≤ 12) := rfl
    have e2 : textsI c = [c.name] ++ c.cols := rfl
    rw [e1] at hs2 ha
    rw [e2] at hs
    have hno : decide (c.cols.length ≤ 12) = false → vB false = vB (fewT t) := fun h => by rw [fewT, ha h]; simp
    clear ha e1 e2
    have el1 : (c.cols.map strC).length = c.cols.length := List.length_map ..
    conv => whnf
    refine ⟨fun h1 => ?_, fun h1 => ?_⟩ <;> conv => whnf
    · exact Fin.old (hno (decide_eq_false (by omega))) hg.le
    refine k2 _ ?_
    conv => whnf
    have h1' : c.cols.length ≤ 12 := by omega
    refine Grow.app (z := zS) hg (by simp only [List.length_map, List.length_append, List.length_cons, List.length_nil, List.length_set, List.length_replicate, List.length_take]; unfold maxLen; omega) (by simp only [List.length_map, List.length_append, List.length_cons, List.length_nil, List.length_set, List.length_replicate, List.length_take]; omega) fun a2 st2 hg2 hk2 => ?_
    conv => whnf
    refine k2 _ ?_
    conv => whnf
    refine Grow.app (z := zS) hg2 (by simp only [List.length_map, List.length_append, List.length_cons, List.length_nil, List.length_set, List.length_replicate, List.length_take]; unfold maxLen; omega) (by simp only [List.length_map, List.length_append, List.length_cons, List.length_nil, List.length_set, List.length_replicate, List.length_take]; omega) fun a3 st3 hg3 hk3 => ?_
    conv => whnf
    refine ⟨hi', rfl, ⟨rfl, trivial⟩, (a3, st3), ⟨rfl, trivial⟩, .refl _, ?_, ?_, hs2 (decide_eq_true h1')⟩
    · rw [hs]
      simp only [← List.append_assoc]
      rw [List.map_append, List.map_append]
      exact hg3
    · rw [hs]; simp only [List.length_append, List.length_cons, List.length_nil]; omega
  obtain rfl := nlt_map ‹_› hi
  rw [List.take_length] at hg hlen2 hall
  have hidx : t.idx.all fewI = true := all_take hall
  have hfin : fewT t = (textsT t).all short := by rw [fewT, hl, hcons, hidx]; rfl
  rw [hfin]
  have hg' : Grow st 1 s a ((textsT t).map strC) := hg
  have hlt : (textsT t).length ≤ 600 := by rw [textsT]; simp only [List.length_append, List.length_cons, List.length_nil, List.length_map]; omega
  clear hg hall
  generalize textsT t = tx at hg' hlt ⊢
  refine Pw.rng (τ := Unit) 8 tx.length (by unfold Big; omega) [3] (fun _ => []) (fun i _ => ∀ x ∈ tx.take i, short x = true) () rfl ⟨⟩ (by simp) fun i _ hi hx => ?_
  rcases hg'.2 with ⟨rfl, h0⟩ | ⟨id, rfl, hid, h0⟩
  · have : tx = [] := by simpa using h0
    subst this
    refine Pw.of TP [] ?_
    conv => whnf
    repeat' (first | (refine ⟨fun h => ?_, fun h => ?_⟩ <;> conv => whnf) | fail)
    · exfalso; omega
    · exact Fin.old rfl hg'.le
  · refine Pw.of TP [] ?_
    conv => whnf
    repeat' (first | (refine ⟨fun h => ?_, fun h => ?_⟩ <;> conv => whnf) | fail)
    · have hi' := lt_map ‹_›
      have hs := take_snoc (Q := fun x => short x = true) hi' hx
      have ha := all_at (p := short) hi'
      refine ⟨by omega, by omega, ⟨_, hid⟩, ?_⟩
      conv => whnf
      refine ⟨1, _, strC tx[i], hid, by simp [hi'], ?_⟩
      conv => whnf
      refine ⟨fun h1 => ?_, fun h1 => ?_⟩ <;> conv => whnf
      · exact Fin.old (congrArg vB (ha (decide_eq_false (by omega))).symm) hg'.le
      · exact ⟨hi', rfl, ⟨rfl, trivial⟩, (), trivial, .refl _, hs (decide_eq_true (by omega))⟩
    · obtain rfl := nlt_map ‹_› hi
      exact Fin.old (congrArg vB (all_take (by simpa using hx)).symm) hg'.le
theorem fewT_ok (t : Tbl) (h : fewT t = true) : okT t := by
  simp only [fewT, lens12, Bool.and_eq_true, decide_eq_true_eq, List.all_eq_true] at h
  obtain ⟨⟨h1, h2, h3⟩, h4, h5, h6⟩ := h
  have ht : ∀ s ∈ textsT t, okS s := fun s hs => of_decide_eq_true (h6 s hs)
  have hc : ∀ x ∈ t.cons, ∀ s ∈ textsC x, okS s := fun x hx s hs => ht s (by rw [textsT]; simp only [List.mem_append, List.mem_flatMap]; exact .inl (.inr ⟨x, hx, hs⟩))
  have hi : ∀ x ∈ t.idx, ∀ s ∈ textsI x, okS s := fun x hx s hs => ht s (by rw [textsT]; simp only [List.mem_append, List.mem_flatMap]; exact .inr ⟨x, hx, hs⟩)
  refine ⟨ht _ (by simp [textsT]), ht _ (by simp [textsT]), ⟨h1, fun c hcc => ht _ (by simp only [textsT, List.mem_append, List.mem_map]; exact .inl (.inl (.inr ⟨c, hcc, rfl⟩)))⟩, ⟨h2, fun x hx => ?_⟩, ⟨h3, fun x hx => ?_⟩⟩
  · have hf := h4 x hx
    simp only [fewC, Bool.and_eq_true, decide_eq_true_eq] at hf
    obtain ⟨f1, f2, f3⟩ := hf
    obtain ⟨m, hm⟩ := Option.isSome_iff_exists.1 f3
    obtain ⟨g1, g2, g3⟩ := cnt_ok _ _ _ hm
    exact ⟨hc x hx _ (by simp [textsC]), ⟨f1, fun s hs => hc x hx s (by simp [textsC, hs])⟩, ⟨g1, by omega⟩, hc x hx _ (by simp [textsC]), ⟨f2, fun s hs => hc x hx s (by simp [textsC, hs])⟩⟩
  · exact ⟨hi x hx _ (by simp [textsI]), of_decide_eq_true (h5 x hx), fun s hs => hi x hx s (by simp [textsI, hs])⟩
end Go.Proofs.Ytbmgenifdlgbmaa.D
namespace Go.Proofs.Ytbmgenifdlgbmaa.D
set_option linter.unusedVariables false
set_option linter.unusedSimpArgs false
open Go Go.Proofs.Ytbmgenifdlgbmaa.D.Pm
set_option maxRecDepth 4000
abbrev zL : TI := ⟨.sl 9, 1, 24, [.slice none 0 0]⟩
def lsC (l : List ByteArray) : List AC := [eS l]
def listsT (t : Tbl) : List (List ByteArray) := t.cons.map (·.cols) ++ t.idx.map (·.cols)
theorem lsC_row (l : List (List ByteArray)) : ∀ r ∈ l.map lsC, r.length = 1 := fun r hr => by obtain ⟨x, _, rfl⟩ := List.mem_map.1 hr; rfl
theorem lists_is (t : Tbl) (ok : okT t) : Is Try.prog 67 [.g (eT t)] (.c (.sl 1 ((listsT t).map lsC))) := by
  have hl2 := ok.2.2.2.1.1
  have hl3 := ok.2.2.2.2.1
  refine Is.of TP Try.func67 rfl rfl (Nat.le_of_ble_eq_true rfl) fun st => Pw.of TP [] ?_
  conv => whnf
  refine Pw.rngS (τ := AC × Sto) 4 t.cons.length (big12 hl2) [1] (fun _ y => [(3, .c y.1)]) (fun _ y => y.2) (fun i y => Grow st 1 y.2 y.1 (((t.cons.take i).map (·.cols)).map lsC)) (.v (.slice none 0 0), st) rfl ⟨rfl, trivial⟩ (.refl _) (.nil (.refl _)) fun i y hi hg => Pw.of TP [] ?_
  obtain ⟨a, s⟩ := y
  simp only at hg ⊢
  conv => whnf
  repeat' (first | (refine ⟨fun h => ?_, fun h => ?_⟩ <;> conv => whnf) | fail)
  · have hi' := lt_map ‹_›
    refine ixm hi' ?_
    have hs := map_take2 (f := Con.cols) hi'
    generalize t.cons[i] = c at hs ⊢
    obtain ⟨nm, kd, cols, ⟨k, op, v, n, kids⟩, tb, refs⟩ := c
    conv => whnf
    refine Grow.app (z := zL) hg (by simp only [List.length_map, List.length_append, List.length_cons, List.length_nil, List.length_set, List.length_replicate, List.length_take]; unfold maxLen; omega) (by simp only [List.length_map, List.length_append, List.length_cons, List.length_nil, List.length_set, List.length_replicate, List.length_take]; omega) fun a' st' hg' hk => ?_
    conv => whnf
    exact ⟨hi', rfl, ⟨rfl, trivial⟩, (a', st'), ⟨rfl, trivial⟩, .refl _, by rw [hs, List.map_append]; exact hg'⟩
  obtain rfl := nlt_map ‹_› hi
  rw [List.take_length] at hg
  refine Pw.rngS (τ := AC × Sto) 5 t.idx.length (big12 hl3) [1] (fun _ y => [(3, .c y.1)]) (fun _ y => y.2) (fun i y => Grow st 1 y.2 y.1 ((t.cons.map (·.cols) ++ (t.idx.take i).map (·.cols)).map lsC)) (a, s) rfl ⟨rfl, trivial⟩ (.refl _) (by simpa using hg) fun i y hi hg => Pw.of TP [] ?_
  obtain ⟨a, s⟩ := y
  simp only at hg ⊢
  conv => whnf
  repeat' (first | (refine ⟨fun h => ?_, fun h => ?_⟩ <;> conv => whnf) | fail)
  · have hi' := lt_map ‹_›
    refine ixm hi' ?_
    have hs := map_take2 (f := Ix.cols) hi'
    generalize t.idx[i] = c at hs ⊢
    conv => whnf
    refine Grow.app (z := zL) hg (by simp only [List.length_map, List.length_append, List.length_cons, List.length_nil, List.length_set, List.length_replicate, List.length_take]; unfold maxLen; omega) (by simp only [List.length_map, List.length_append, List.length_cons, List.length_nil, List.length_set, List.length_replicate, List.length_take]; omega) fun a' st' hg' hk => ?_
    conv => whnf
    exact ⟨hi', rfl, ⟨rfl, trivial⟩, (a', st'), ⟨rfl, trivial⟩, .refl _, by rw [hs, ← List.append_assoc, List.map_append]; exact hg'⟩
  obtain rfl := nlt_map ‹_› hi
  rw [List.take_length] at hg
  exact Fin.grow hg (lsC_row _) ⟨rfl, rfl⟩
theorem rnames14_is (t : Tbl) (ok : okT t) : Is Try.prog 25 [.g (eT t)] (.t [.c (eS (t.cols.map (·.name))), .c (eS (namesT t))]) := by
  have hl1 := ok.2.2.1.1
  have hl2 := ok.2.2.2.1.1
  have hl3 := ok.2.2.2.2.1
  refine Is.of TP Try.func25 rfl rfl (Nat.le_of_ble_eq_true rfl) fun st => Pw.of TP [] ?_
  conv => whnf
  refine Pw.rngS (τ := AC × Sto) 6 t.cols.length (big12 hl1) [1, 5] (fun _ y => [(4, .c y.1)]) (fun _ y => y.2) (fun i y => Grow st 1 y.2 y.1 (((t.cols.take i).map (·.name)).map strC)) (.v (.slice none 0 0), st) rfl ⟨rfl, trivial⟩ (.refl _) (.nil (.refl _)) fun i y hi hg => Pw.of TP [] ?_
  obtain ⟨a, s⟩ := y
  simp only at hg ⊢
  conv => whnf
  repeat' (first | (refine ⟨fun h => ?_, fun h => ?_⟩ <;> conv => whnf) | fail)
  · have hi' := lt_map ‹_›
    refine ixm hi' ?_
    have hs := map_take2 (f := Cl.name) hi'
    generalize t.cols[i] = c at hs ⊢
    conv => whnf
    refine Grow.app (z := zS) hg (by simp only [List.length_map, List.length_append, List.length_cons, List.length_nil, List.length_set, List.length_replicate, List.length_take]; unfold maxLen; omega) (by simp only [List.length_map, List.length_append, List.length_cons, List.length_nil, List.length_set, List.length_replicate, List.length_take]; omega) fun a' st' hg' hk => ?_
    conv => whnf
    exact ⟨hi', rfl, ⟨rfl, rfl, trivial⟩, (a', st'), ⟨rfl, trivial⟩, .refl _, by rw [hs, List.map_append]; exact hg'⟩
  obtain rfl := nlt_map ‹_› hi
  rw [List.take_length] at hg
  refine Pw.frzG 4 [1, 5, 7] hg (strC_row _) rfl ?_
  clear hg
  refine Pw.rngS (τ := AC × Sto) 7 t.cons.length (big12 hl2) [1, 4] (fun _ y => [(5, .c y.1)]) (fun _ y => y.2) (fun i y => Grow st 1 y.2 y.1 (((t.cons.take i).map (·.name)).map strC)) (.v (.slice none 0 0), st) rfl ⟨rfl, trivial⟩ (.refl _) (.nil (.refl _)) fun i y hi hg => Pw.of TP [] ?_
  obtain ⟨b, s⟩ := y
  simp only at hg ⊢
  conv => whnf
  repeat' (first | (refine ⟨fun h => ?_, fun h => ?_⟩ <;> conv => whnf) | fail)
  · have hi' := lt_map ‹_›
    refine ixm hi' ?_
    have hs := map_take2 (f := Con.name) hi'
    generalize t.cons[i] = c at hs ⊢
    obtain ⟨nm, kd, cols, ⟨k, op, v, n, kids⟩, tb, refs⟩ := c
    conv => whnf
    refine Grow.app (z := zS) hg (by simp only [List.length_map, List.length_append, List.length_cons, List.length_nil, List.length_set, List.length_replicate, List.length_take]; unfold maxLen; omega) (by simp only [List.length_map, List.length_append, List.length_cons, List.length_nil, List.length_set, List.length_replicate, List.length_take]; omega) fun a' st' hg' hk => ?_
    conv => whnf
    exact ⟨hi', rfl, ⟨rfl, rfl, trivial⟩, (a', st'), ⟨rfl, trivial⟩, .refl _, by rw [hs, List.map_append]; exact hg'⟩
  obtain rfl := nlt_map ‹_› hi
  rw [List.take_length] at hg
  refine Pw.rngS (τ := AC × Sto) 8 t.idx.length (big12 hl3) [1, 4] (fun _ y => [(5, .c y.1)]) (fun _ y => y.2) (fun i y => Grow st 1 y.2 y.1 ((t.cons.map (·.name) ++ (t.idx.take i).map (·.name)).map strC)) (b, s) rfl ⟨rfl, trivial⟩ (.refl _) (by simpa using hg) fun i y hi hg => Pw.of TP [] ?_
  obtain ⟨b, s⟩ := y
  simp only at hg ⊢
  conv => whnf
  repeat' (first | (refine ⟨fun h => ?_, fun h => ?_⟩ <;> conv => whnf) | fail)
  · have hi' := lt_map ‹_›
    refine ixm hi' ?_
    have hs := map_take2 (f := Ix.name) hi'
    generalize t.idx[i] = c at hs ⊢
    conv => whnf
    refine Grow.app (z := zS) hg (by simp only [List.length_map, List.length_append, List.length_cons, List.length_nil, List.length_set, List.length_replicate, List.length_take]; unfold maxLen; omega) (by simp only [List.length_map, List.length_append, List.length_cons, List.length_nil, List.length_set, List.length_replicate, List.length_take]; omega) fun a' st' hg' hk => ?_
    conv => whnf
    exact ⟨hi', rfl, ⟨rfl, rfl, trivial⟩, (a', st'), ⟨rfl, trivial⟩, .refl _, by rw [hs, ← List.append_assoc, List.map_append]; exact hg'⟩
  obtain rfl := nlt_map ‹_› hi
  rw [List.take_length] at hg
  exact Fin.growR hg (strC_row _) ⟨rfl, rfl⟩
theorem has_is (l : List ByteArray) (hl : l.length ≤ Big) (x : ByteArray) : Is Try.prog 29 [.c (eS l), vS x] (vB (l.any fun y => decide (y = x))) := by
  refine Is.of TP Try.func29 rfl rfl (Nat.le_of_ble_eq_true rfl) fun st => Pw.of TP [] ?_
  conv => whnf
  refine Pw.rng (τ := Unit) 5 l.length hl [0, 1] (fun _ => []) (fun i _ => ∀ y ∈ l.take i, decide (y = x) = false) () rfl trivial (by simp) fun i _ hi hx => Pw.of TP [] ?_
  conv => whnf
  repeat' (first | (refine ⟨fun h => ?_, fun h => ?_⟩ <;> conv => whnf) | fail)
  · have hi' := lt_map ‹_›
    refine ixm hi' ?_
    conv => whnf
    repeat' (first | (refine ⟨fun h => ?_, fun h => ?_⟩ <;> conv => whnf) | fail)
    · (refine Fin.old (congrArg vB ?_) (.refl _); symm; exact List.any_eq_true.2 ⟨l[i], List.getElem_mem hi', decide_eq_true ‹_›⟩)
    · exact ⟨hi', rfl, ⟨rfl, rfl, trivial⟩, (), trivial, .refl _, take_snoc (Q := fun y => decide (y = x) = false) hi' hx (decide_eq_false ‹_›)⟩
  · obtain rfl := nlt_map ‹_› hi
    (refine Fin.old (congrArg vB ?_) (.refl _); symm; exact List.any_eq_false.2 fun y hy => by simpa using hx y (by simpa using hy))
theorem nodup_take {l : List ByteArray} {i : Nat} (h : i < l.length) (hn : (l.take i).Nodup) : (l.take (i + 1)).Nodup ↔ ((l.take i).any fun y => decide (y = l[i])) = false := by
  rw [List.take_add_one, List.getElem?_eq_getElem h, List.nodup_append]
  simp only [Option.toList_some]
  constructor
  · rintro ⟨_, _, h3⟩
    exact List.any_eq_false.2 fun y hy => by simpa using h3 y hy l[i] (by simp)
  · intro h4
    refine ⟨hn, by simp, fun a ha b hb => ?_⟩
    simp at hb
    subst hb
    have := List.any_eq_false.1 h4 a ha
    simpa using this
theorem twice_is (l : List ByteArray) (hl : l.length ≤ Big) : Is Try.prog 114 [.c (eS l)] (vB (!unl l)) := by
  refine Is.of TP Try.func114 rfl rfl (Nat.le_of_ble_eq_true rfl) fun st => Pw.of TP [] ?_
  conv => whnf
  refine Pw.rng (τ := Unit) 3 l.length hl [0] (fun _ => []) (fun i _ => (l.take i).Nodup) () rfl trivial (by simp) fun i _ hi hx => Pw.of TP [] ?_
  conv => whnf
  repeat' (first | (refine ⟨fun h => ?_, fun h => ?_⟩ <;> conv => whnf) | fail)
  · have hi' := lt_map ‹_›
    have hn := nodup_take hi' hx
    have hh := has_is (l.take i) (by rw [List.length_take]; omega) l[i]
    have e1 : (((l.map strC).take i).drop 0) = (l.take i).map strC := by rw [List.drop_zero, List.map_take]
    refine Pw.drw TP mixed (by kernel_rfl) ?_; conv => whnf
    refine ⟨by omega, by omega, by rw [List.length_map]; omega, ?_⟩
    conv => whnf
    refine ixm hi' ?_
    conv => whnf
    refine Is.drawB (x := (l.take i).any fun y => decide (y = l[i])) (by unfold eS at hh; rw [← e1] at hh; exact hh) fun b hb => ?_
    cases b <;> conv => whnf
    · exact ⟨hi', rfl, ⟨rfl, trivial⟩, (), trivial, .refl _, hn.2 hb⟩
    · (refine Fin.old (congrArg vB ?_) (.refl _); rw [unl, decide_eq_false (fun h => ?_)]; rfl; have h2 := hn.1 (h.sublist (List.take_sublist _ _)); rw [hb] at h2; cases h2)
  · obtain rfl := nlt_map ‹_› hi
    rw [List.take_length] at hx
    (refine Fin.old (congrArg vB ?_) (.refl _); rw [unl, decide_eq_true hx]; rfl)
end Go.Proofs.Ytbmgenifdlgbmaa.D
namespace Go.Proofs.Ytbmgenifdlgbmaa.D
set_option linter.unusedVariables false
set_option linter.unusedSimpArgs false
open Go Go.Proofs.Ytbmgenifdlgbmaa.D.Pm
set_option maxRecDepth 4000
def rusedT (t : Tbl) : List ByteArray := (listsT t).flatten ++ t.cons.flatMap fun x => if x.kind = 2 then namesE x.check else []
theorem flat_take3 {α : Type} {l : List (List α)} {i : Nat} (h : i < l.length) : (l.take (i + 1)).flatten = (l.take i).flatten ++ l[i] := by
  rw [List.take_add_one, List.getElem?_eq_getElem h, List.flatten_append]; simp
theorem listsT_len (t : Tbl) (ok : okT t) : (listsT t).length ≤ 24 ∧ ∀ l ∈ listsT t, l.length ≤ 12 := by
  have h1 := ok.2.2.2.1.1
  have h2 := ok.2.2.2.2.1
  refine ⟨by rw [listsT, List.length_append, List.length_map, List.length_map]; omega, fun l hl => ?_⟩
  rcases List.mem_append.1 hl with h | h <;> obtain ⟨x, hx, rfl⟩ := List.mem_map.1 h
  · exact (ok.2.2.2.1.2 x hx).2.1.1
  · exact (ok.2.2.2.2.2 x hx).2.1
theorem rused_is (t : Tbl) (ok : okT t) : Is Try.prog 24 [.g (eT t)] (.c (eS (rusedT t))) := by
  obtain ⟨hl2, o2⟩ := ok.2.2.2.1
  obtain ⟨ll1, ll2⟩ := listsT_len t ok
  have hle := lists_is t ok
  refine Is.of TP Try.func24 rfl rfl (Nat.le_of_ble_eq_true rfl) fun st => Pw.of TP [] ?_
  conv => whnf
  refine hle.call ?_
  have hru : rusedT t = (listsT t).flatten ++ t.cons.flatMap fun x => if x.kind = 2 then namesE x.check else [] := rfl
  rw [hru]
  generalize listsT t = ls at ll1 ll2 ⊢
  clear hle hru
  conv => whnf
  refine Pw.rngS (τ := AC × Sto) 5 ls.length (by unfold Big; omega) [1, 3] (fun _ y => [(4, .c y.1)]) (fun _ y => y.2) (fun i y => Grow st 1 y.2 y.1 ((ls.take i).flatten.map strC) ∧ (ls.take i).flatten.length ≤ 12 * i) (.v (.slice none 0 0), st) rfl ⟨rfl, trivial⟩ (.refl _) ⟨.nil (.refl _), by simp⟩ fun i y hi hg => Pw.of TP [] ?_
  obtain ⟨a, s⟩ := y
  obtain ⟨hg, hlen⟩ := hg
  simp only at hg ⊢
  conv => whnf
  repeat' (first | (refine ⟨fun h => ?_, fun h => ?_⟩ <;> conv => whnf) | fail)
  · have hi' := lt_map ‹_›
    refine ixm hi' ?_
    have hs := flat_take3 hi'
    have hk := ll2 _ (List.getElem_mem hi')
    generalize ls[i] = c at hs hk ⊢
    conv => whnf
    refine Grow.app (z := zS) hg (by simp only [List.length_map, List.length_append, List.length_cons, List.length_nil, List.length_set, List.length_replicate, List.length_take]; unfold maxLen; omega) (by simp only [List.length_map, List.length_append, List.length_cons, List.length_nil, List.length_set, List.length_replicate, List.length_take]; omega) fun a' st' hg' hk => ?_
    conv => whnf
    exact ⟨hi', rfl, ⟨rfl, rfl, trivial⟩, (a', st'), ⟨rfl, trivial⟩, .refl _, by rw [hs, List.map_append]; exact hg', by rw [hs, List.length_append]; omega⟩
  obtain rfl := nlt_map ‹_› hi
  rw [List.take_length] at hg hlen
  refine Pw.rngS (τ := AC × Sto) 6 t.cons.length (big12 hl2) [1] (fun _ y => [(4, .c y.1)]) (fun _ y => y.2) (fun i y => Grow st 1 y.2 y.1 ((ls.flatten ++ (t.cons.take i).flatMap fun x => if x.kind = 2 then namesE x.check else []).map strC) ∧ ((t.cons.take i).flatMap fun x => if x.kind = 2 then namesE x.check else []).length ≤ 60 * i) (a, s) rfl ⟨rfl, trivial⟩ (.refl _) ⟨by simpa using hg, by simp⟩ fun i y hi hg => Pw.of TP [] ?_
  obtain ⟨a, s⟩ := y
  obtain ⟨hg, hlen2⟩ := hg
  simp only at hg ⊢
  conv => whnf
  repeat' (first | (refine ⟨fun h => ?_, fun h => ?_⟩ <;> conv => whnf) | fail)
  · have hi' := lt_map ‹_›
    have k2 := fun F => ixm (f := eCon) (F := F) hi'
    refine k2 _ ?_
    have hs := flat_take2 (f := fun x : Con => if x.kind = 2 then namesE x.check else []) hi'
    have hoc := o2 _ (List.getElem_mem hi')
    generalize t.cons[i] = c at hs hoc k2 ⊢
    have hn := rnames_is c.check hoc.2.2.1.1 (by have := hoc.2.2.1.2; unfold Lim; omega)
    have hnl := namesE_len c.check
    have hcn := hoc.2.2.1.2
    obtain ⟨nm, kd, cols, ck, tb, refs⟩ := c
    simp only at hn hnl hs hcn
    generalize hne : namesE ck = ne at hn hnl hs
    obtain ⟨k, op, v, n, kids⟩ := ck
    conv => whnf
    repeat' (first | (refine ⟨fun h => ?_, fun h => ?_⟩ <;> conv => whnf) | fail)
    · refine k2 _ ?_
      conv => whnf
      refine Is.call hn ?_
      conv => whnf
      refine Grow.app (z := zS) hg (by simp only [List.length_map, List.length_append, List.length_cons, List.length_nil, List.length_set, List.length_replicate, List.length_take]; unfold maxLen; omega) (by simp only [List.length_map, List.length_append, List.length_cons, List.length_nil, List.length_set, List.length_replicate, List.length_take]; omega) fun a2 st2 hg2 hk2 => ?_
      conv => whnf
      refine ⟨hi', rfl, ⟨rfl, trivial⟩, (a2, st2), ⟨rfl, trivial⟩, .refl _, ?_, ?_⟩
      · rw [hs, if_pos ‹_›, ← List.append_assoc, List.map_append]; exact hg2
      · rw [hs, if_pos ‹_›, List.length_append]; omega
    · refine ⟨hi', rfl, ⟨rfl, trivial⟩, (a, s), ⟨rfl, trivial⟩, .refl _, ?_, ?_⟩
      · rw [hs, if_neg ‹_›, List.append_nil]; exact hg
      · rw [hs, if_neg ‹_›, List.append_nil]; omega
  · obtain rfl := nlt_map ‹_› hi
    rw [List.take_length] at hg
    exact Fin.grow hg (strC_row _) ⟨rfl, rfl⟩
theorem rnone_is (e : Ex) (ok : okE e) : Is Try.prog 65 [.g (eE e)] (vB (noneE e)) := by
  have h1 := sameZ_is _ _ (rsame_is e ok zeroE)
  unfold noneE
  generalize eqE e zeroE = b at h1
  cases e
  refine Is.of TP Try.func65 rfl rfl (Nat.le_of_ble_eq_true rfl) fun st => Pw.of TP [] ?_
  conv => whnf
  refine Is.callB h1 fun b hb => ?_
  conv => whnf
  (refine Fin.old (congrArg vB ?_) (.refl _); rw [hb])
theorem used_any (t : Tbl) (p : ByteArray → Bool) : (rusedT t).any p = (usedT t).any p := by
  rw [Bool.eq_iff_iff, List.any_eq_true, List.any_eq_true]
  have key : ∀ s, s ∈ rusedT t ↔ s ∈ usedT t := fun s => by
    simp only [rusedT, usedT, listsT, usedC, List.mem_append, List.mem_flatten, List.mem_map, List.mem_flatMap]
    constructor
    · rintro (⟨l, (⟨x, hx, rfl⟩ | ⟨x, hx, rfl⟩), h⟩ | ⟨x, hx, h⟩)
      · exact .inl ⟨x, hx, .inl h⟩
      · exact .inr ⟨x, hx, h⟩
      · exact .inl ⟨x, hx, .inr h⟩
    · rintro (⟨x, hx, h | h⟩ | ⟨x, hx, h⟩)
      · exact .inl ⟨_, .inl ⟨x, hx, rfl⟩, h⟩
      · exact .inr ⟨x, hx, h⟩
      · exact .inl ⟨_, .inr ⟨x, hx, rfl⟩, h⟩
  exact ⟨fun ⟨s, h1, h2⟩ => ⟨s, (key s).1 h1, h2⟩, fun ⟨s, h1, h2⟩ => ⟨s, (key s).2 h1, h2⟩⟩
theorem rusedT_len (t : Tbl) (ok : okT t) : (rusedT t).length ≤ 1008 := by
  obtain ⟨ll1, ll2⟩ := listsT_len t ok
  have h1 := flat_len (fun x : Con => if x.kind = 2 then namesE x.check else []) 60 t.cons (fun x hx => by
    have h2 := (ok.2.2.2.1.2 x hx).2.2.1.2
    have h3 := namesE_len x.check
    split
    · omega
    · simp)
  have h2 := flat_len (fun x : List ByteArray => x) 12 (listsT t) ll2
  have h3 := ok.2.2.2.1.1
  rw [rusedT, List.length_append]
  simp only [List.flatMap_id'] at h2
  have h5 : t.cons.length * 60 ≤ 12 * 60 := Nat.mul_le_mul_right _ h3
  have h6 : (listsT t).length * 12 ≤ 24 * 12 := Nat.mul_le_mul_right _ ll1
  omega
end Go.Proofs.Ytbmgenifdlgbmaa.D
namespace Go.Proofs.Ytbmgenifdlgbmaa.D
set_option linter.unusedVariables false
set_option linter.unusedSimpArgs false
open Go Go.Proofs.Ytbmgenifdlgbmaa.D.Pm
set_option maxRecDepth 4000
def wrongT (t : Tbl) : Nat := if namedT t = false then 18 else if kindsT t = false then 2 else if countsT t = false then 3 else if onceT t = false then 19 else 0
def allNs (t : Tbl) : List ByteArray := [t.name, t.owner] ++ t.cols.map (·.name) ++ namesT t
theorem named_all (t : Tbl) : namedT t = (allNs t).all isName := by
  simp only [namedT, allNs, namesT, List.all_append, List.all_cons, List.all_nil, List.all_map, Bool.and_true, Function.comp_def, Bool.and_assoc]
theorem cons_at (t : Tbl) {i : Nat} (h : i < t.cons.length) : ∃ h', (listsT t)[i]'h' = t.cons[i].cols := by
  have h' : i < (listsT t).length := by rw [listsT, List.length_append, List.length_map, List.length_map]; omega
  refine ⟨h', ?_⟩
  simp only [listsT]
  rw [List.getElem_append_left (by rw [List.length_map]; exact h), List.getElem_map]
theorem idx_at' (t : Tbl) {i : Nat} (h : ¬ i < t.cons.length) (h2 : i < (listsT t).length) : ∃ h', (listsT t)[i]'h2 = (t.idx[i - t.cons.length]'h').cols := by
  have h' : i - t.cons.length < t.idx.length := by rw [listsT, List.length_append, List.length_map, List.length_map] at h2; omega
  refine ⟨h', ?_⟩
  simp only [listsT]
  rw [List.getElem_append_right (by rw [List.length_map]; omega), List.getElem_map]
  simp only [List.length_map]
/-- what of each list is so -/
def eachL (t : Tbl) (f : Con → Bool) (g : Ix → Bool) (k : Nat) : Bool := if h : k < t.cons.length then f t.cons[k] else if h2 : k - t.cons.length < t.idx.length then g t.idx[k - t.cons.length] else true
theorem eachL_no (t : Tbl) {f : Con → Bool} {g : Ix → Bool} {k : Nat} (h : eachL t f g k = false) : (t.cons.all f && t.idx.all g) = false := by
  unfold eachL at h
  split at h
  · rw [all_at _ h]; rfl
  · split at h
    · rw [all_at _ h, Bool.and_false]
    · cases h
theorem eachL_all (t : Tbl) {f : Con → Bool} {g : Ix → Bool} (h : ∀ k, k < (listsT t).length → eachL t f g k = true) : (t.cons.all f && t.idx.all g) = true := by
  have hl : (listsT t).length = t.cons.length + t.idx.length := by rw [listsT, List.length_append, List.length_map, List.length_map]
  rw [Bool.and_eq_true]
  refine ⟨List.all_eq_true.2 fun x hx => ?_, List.all_eq_true.2 fun x hx => ?_⟩
  · obtain ⟨j, hj, rfl⟩ := List.mem_iff_getElem.1 hx
    have := h j (by omega)
    rw [eachL, dif_pos hj] at this
    exact this
  · obtain ⟨j, hj, rfl⟩ := List.mem_iff_getElem.1 hx
    have := h (t.cons.length + j) (by omega)
    rw [eachL, dif_neg (by omega), dif_pos (by omega)] at this
    simpa using this
set_option maxHeartbeats 2000000 in
theorem wrong_is (t : Tbl) (ok : okT t) : Is Try.prog 63 [.g (eT t)] (vI .i64 (wrongT t : Nat)) := by
  obtain ⟨hl1, o1⟩ := ok.2.2.1
  obtain ⟨hl2, o2⟩ := ok.2.2.2.1
  obtain ⟨hl3, o3⟩ := ok.2.2.2.2
  obtain ⟨ll1, ll2⟩ := listsT_len t ok
  have el1 : (t.cols.map eCl).length = t.cols.length := List.length_map ..
  have el2 : (t.cons.map eCon).length = t.cons.length := List.length_map ..
  have el3 : (t.idx.map eIx).length = t.idx.length := List.length_map ..
  have nl := namesT_len t ok
  have hna := named_all t
  refine Is.of TP Try.func63 rfl rfl (Nat.le_of_ble_eq_true rfl) fun st => Pw.of TP [1000022] ?_
  conv => whnf
  refine (rnames14_is t ok).call ?_
  conv => whnf
  intro id hid
  conv => whnf
  refine Grow.app (z := zS) (st0 := st) (rows := [t.name, t.owner].map strC) ⟨.upd hid, .inr ⟨id, rfl, upd_same _ _ _, hid⟩⟩ (by simp only [List.length_map, List.length_append, List.length_cons, List.length_nil, List.length_set, List.length_replicate, List.length_take]; unfold maxLen; omega) (by simp only [List.length_map, List.length_append, List.length_cons, List.length_nil, List.length_set, List.length_replicate, List.length_take]; omega) fun a2 s2 hg2 hk2 => ?_
  conv => whnf
  refine Grow.app (z := zS) hg2 (by simp only [List.length_map, List.length_append, List.length_cons, List.length_nil, List.length_set, List.length_replicate, List.length_take]; unfold maxLen; omega) (by simp only [List.length_map, List.length_append, List.length_cons, List.length_nil, List.length_set, List.length_replicate, List.length_take]; omega) fun a3 s3 hg3 hk3 => ?_
  conv => whnf
  have hg : Grow st 1 s3 a3 ((allNs t).map strC) := by rw [allNs, List.map_append, List.map_append]; exact hg3
  have hal : (allNs t).length ≤ 38 := by simp only [allNs, List.length_append, List.length_cons, List.length_nil, List.length_map]; omega
  have hao : ∀ s ∈ allNs t, okS s := fun s hs => by
    simp only [allNs, namesT, List.mem_append, List.mem_cons, List.not_mem_nil, or_false, List.mem_map] at hs
    rcases hs with ((rfl | rfl) | ⟨c, hc, rfl⟩) | (⟨c, hc, rfl⟩ | ⟨c, hc, rfl⟩)
    · exact ok.1
    · exact ok.2.1
    · exact o1 c hc
    · exact (o2 c hc).1
    · exact (o3 c hc).1
  clear hg3 hg2 hk3 hk2
  refine Pw.frzG 5 [1, 3, 4, 6] hg (strC_row _) rfl ?_
  clear hg hid
  generalize allNs t = an at hal hao hna
  refine Pw.rng (τ := Unit) 6 an.length (by unfold Big; omega) [1, 3, 4, 5] (fun _ => []) (fun i _ => ∀ x ∈ an.take i, isName x = true) () rfl ⟨⟩ (by simp) fun i _ hi hx => Pw.of TP [] ?_
  conv => whnf
  refine ⟨fun h => ?_, fun h => ?_⟩ <;> conv => whnf
  · have hi' := lt_map ‹_›
    refine ixm hi' ?_
    have hs := take_snoc (Q := fun x => isName x = true) hi' hx
    have ha := all_at (p := isName) hi'
    have hn := risName_is an[i] (Nat.le_of_lt (hao _ (List.getElem_mem hi')).lt)
    rw [← isName_eq] at hn
    generalize an[i] = s at hs ha hn
    conv => whnf
    refine Is.callB hn fun b hb => ?_
    cases b <;> conv => whnf
    · exact Fin.old (congrArg (vI .i64) (by rw [wrongT, if_pos (by rw [hna, ha hb])]; rfl)) (.refl _)
    · exact ⟨hi', rfl, ⟨rfl, rfl, rfl, rfl, trivial⟩, (), trivial, .refl _, hs hb⟩
  obtain rfl := nlt_map ‹_› hi
  have hnamed : namedT t = true := by rw [hna]; exact all_take (by simpa using hx)
  have w1 : wrongT t = if kindsT t = false then 2 else if countsT t = false then 3 else if onceT t = false then 19 else 0 := by rw [wrongT, if_neg (by simp [hnamed])]
  clear hnamed hna hx hao hal
  rw [w1]
  clear w1
  conv => whnf
  have hk0 : kindsT t = false → vI .i64 2 = vI .i64 ((if kindsT t = false then 2 else if countsT t = false then 3 else if onceT t = false then 19 else 0 : Nat) : Int) := fun h => by rw [if_pos h]; rfl
  refine ⟨fun hv => ?_, fun hv => ?_⟩ <;> conv => whnf
  · exact Fin.old (hk0 (by rw [kindsT, decide_eq_false (by omega)]; rfl)) (.refl _)
  refine Pw.rng (τ := Unit) 7 t.cols.length (big12 hl1) [1, 3, 4] (fun _ => []) (fun i _ => ∀ x ∈ t.cols.take i, typOkC x = true) () rfl ⟨⟩ (by simp) fun i _ hi hx => Pw.of TP [] ?_
  conv => whnf
  refine ⟨fun h => ?_, fun h => ?_⟩ <;> conv => whnf
  · have hi' := lt_map ‹_›
    have k2 := fun F => ixm (f := eCl) (F := F) hi'
    refine k2 _ ?_
    have hs := take_snoc (Q := fun x => typOkC x = true) hi' hx
    have ha := all_at (p := typOkC) hi'
    generalize t.cols[i] = c at hs ha k2 ⊢
    have hno : typOkC c = false → vI .i64 2 = vI .i64 ((if kindsT t = false then 2 else if countsT t = false then 3 else if onceT t = false then 19 else 0 : Nat) : Int) := fun h => hk0 (by rw [kindsT, ha h, Bool.false_and, Bool.and_false])
    conv => whnf
    refine ⟨fun h1 => ?_, fun h1 => ?_⟩ <;> conv => whnf
    · exact Fin.old (hno (by rw [typOkC, decide_eq_false (by omega)]; rfl)) (.refl _)
    refine k2 _ ?_
    conv => whnf
    refine ⟨fun h2 => ?_, fun h2 => ?_⟩ <;> conv => whnf
    · exact Fin.old (hno (by rw [typOkC, decide_eq_false (show ¬ c.typ ≤ 3 by omega), Bool.and_false])) (.refl _)
    · exact ⟨hi', rfl, ⟨rfl, rfl, rfl, trivial⟩, (), trivial, .refl _, hs (by rw [typOkC, decide_eq_true (by omega), decide_eq_true (by omega)]; rfl)⟩
  obtain rfl := nlt_map ‹_› hi
  have hcols : t.cols.all typOkC = true := all_take (by simpa using hx)
  clear hx
  refine Pw.rng (τ := Unit) 8 t.cons.length (big12 hl2) [1, 3, 4] (fun _ => []) (fun i _ => ∀ x ∈ t.cons.take i, kindOkC x = true) () rfl ⟨⟩ (by simp) fun i _ hi hx => Pw.of TP [] ?_
  conv => whnf
  refine ⟨fun h => ?_, fun h => ?_⟩ <;> conv => whnf
  · have hi' := lt_map ‹_›
    have k2 := fun F => ixm (f := eCon) (F := F) hi'
    refine k2 _ ?_
    have hs := take_snoc (Q := fun x => kindOkC x = true) hi' hx
    have ha := all_at (p := kindOkC) hi'
    generalize t.cons[i] = c at hs ha k2 ⊢
    have hno : kindOkC c = false → vI .i64 2 = vI .i64 ((if kindsT t = false then 2 else if countsT t = false then 3 else if onceT t = false then 19 else 0 : Nat) : Int) := fun h => hk0 (by rw [kindsT, ha h, Bool.and_false, Bool.and_false])
    have hko : kindOkC c = (decide (1 ≤ c.kind) && decide (c.kind ≤ 3)) := rfl
    obtain ⟨nm, kd, cols, ⟨k, op, v, n, kids⟩, tb, refs⟩ := c
    simp only at hko
    conv => whnf
    refine ⟨fun (h1 : kd < 1) => ?_, fun (h1 : ¬ kd < 1) => ?_⟩ <;> conv => whnf
    · exact Fin.old (hno (by rw [hko, decide_eq_false (by omega)]; rfl)) (.refl _)
    refine k2 _ ?_
    conv => whnf
    refine ⟨fun (h2 : 3 < kd) => ?_, fun (h2 : ¬ 3 < kd) => ?_⟩ <;> conv => whnf
    · exact Fin.old (hno (by rw [hko, decide_eq_false (show ¬ kd ≤ 3 by omega), Bool.and_false])) (.refl _)
    · exact ⟨hi', rfl, ⟨rfl, rfl, rfl, trivial⟩, (), trivial, .refl _, hs (by rw [hko, decide_eq_true (by omega), decide_eq_true (by omega)]; rfl)⟩
  obtain rfl := nlt_map ‹_› hi
  have hcons : t.cons.all kindOkC = true := all_take (by simpa using hx)
  clear hx
  have hkinds : kindsT t = true := by rw [kindsT, hcols, hcons, decide_eq_true (by omega)]; rfl
  rw [if_neg (by simp [hkinds])]
  clear hkinds hcons hcols hk0
  have hk3 : countsT t = false → vI .i64 3 = vI .i64 ((if countsT t = false then 3 else if onceT t = false then 19 else 0 : Nat) : Int) := fun h => by rw [if_pos h]; rfl
  have hlen3 : ¬ (1 ≤ t.cols.length ∧ t.cols.length ≤ 6 ∧ t.cons.length ≤ 6 ∧ t.idx.length ≤ 3) → vI .i64 3 = vI .i64 ((if countsT t = false then 3 else if onceT t = false then 19 else 0 : Nat) : Int) := fun h => hk3 (by rw [countsT, show lensT t = false from ?_]; rfl; simp only [lensT, Bool.and_eq_false_iff, decide_eq_false_iff_not]; omega)
  conv => whnf
  refine ⟨fun h1 => ?_, fun h1 => ?_⟩ <;> rw [el1] at h1 <;> conv => whnf
  · exact Fin.old (hlen3 (by omega)) (.refl _)
  refine ⟨fun h2 => ?_, fun h2 => ?_⟩ <;> rw [el1] at h2 <;> conv => whnf
  · exact Fin.old (hlen3 (by omega)) (.refl _)
  refine ⟨fun h3 => ?_, fun h3 => ?_⟩ <;> rw [el2] at h3 <;> conv => whnf
  · exact Fin.old (hlen3 (by omega)) (.refl _)
  refine ⟨fun h4 => ?_, fun h4 => ?_⟩ <;> rw [el3] at h4 <;> conv => whnf
  · exact Fin.old (hlen3 (by omega)) (.refl _)
  have hlens : lensT t = true := by simp only [lensT, Bool.and_eq_true, decide_eq_true_eq]; omega
  clear hlen3 h1 h2 h3 h4 hv
  refine (lists_is t ok).call ?_
  have hca := fun i (h : i < t.cons.length) => cons_at t h
  have hcb := fun i (h : ¬ i < t.cons.length) (h2 : i < (listsT t).length) => idx_at' t h h2
  have hee := fun f g => eachL_all t (f := f) (g := g)
  generalize listsT t = ls at hca hcb hee ll1 ll2 ⊢
  conv => whnf
  refine Pw.rng (τ := Unit) 10 ls.length (by unfold Big; omega) [1, 3, 4, 9] (fun _ => []) (fun i _ => ∀ k, k < i → eachL t countC countI k = true) () rfl ⟨⟩ (fun k hk => absurd hk (Nat.not_lt_zero k)) fun i _ hi hx => Pw.of TP [] ?_
  conv => whnf
  refine ⟨fun h => ?_, fun h => ?_⟩ <;> conv => whnf
  · have hi' := lt_map ‹_›
    have k1 := fun F => ixm (f := lsC) (F := F) hi'
    have hno : eachL t countC countI i = false → vI .i64 3 = vI .i64 ((if countsT t = false then 3 else if onceT t = false then 19 else 0 : Nat) : Int) := fun h => hk3 (by rw [countsT, eachL_no t h, Bool.and_false])
    have hs : eachL t countC countI i = true → ∀ k, k < i + 1 → eachL t countC countI k = true := fun h k hk => by
      by_cases hki : k = i
      · subst hki; exact h
      · exact hx k (by omega)
    refine ⟨fun hlt => ?_, fun hlt => ?_⟩ <;> rw [el2] at hlt
    · have hlt' : i < t.cons.length := by omega
      have k2 := fun F => ixm (f := eCon) (F := F) hlt'
      have hee : eachL t countC countI i = countC t.cons[i] := by rw [eachL, dif_pos hlt']
      obtain ⟨_, hcc⟩ := hca i hlt'
      rw [hcc] at k1
      rw [hee] at hno hs
      generalize t.cons[i] = c at k2 k1 hno hs
      have e1 : countC c = ((decide (c.kind = 2) || (decide (1 ≤ c.cols.length) && decide (c.cols.length ≤ 3))) && (!decide (c.kind = 3) || (decide (1 ≤ c.refs.length) && decide (c.refs.length ≤ 3)))) := rfl
      rw [e1] at hno hs
      clear hee e1 hcc hx
      have el4 : (c.cols.map strC).length = c.cols.length := List.length_map ..
      have el5 : (c.refs.map strC).length = c.refs.length := List.length_map ..
      obtain ⟨nm, kd, cols, ⟨k, op, v, n, kids⟩, tb, refs⟩ := c
      simp only at hno hs el4 el5
      conv => whnf
      refine k2 _ ?_
      conv => whnf
      refine ⟨fun q1 => ?_, fun q1 => ?_⟩ <;> conv => whnf
      · refine ⟨fun _ => ?_, fun h => absurd hlt (by rw [el2] at h; exact h)⟩
        conv => whnf
        refine k2 _ ?_
        conv => whnf
        refine ⟨fun q2 => (by omega), fun q2 => ?_⟩
        conv => whnf
        exact ⟨hi', rfl, ⟨rfl, rfl, rfl, rfl, trivial⟩, (), trivial, .refl _, hs (by rw [decide_eq_true q1, decide_eq_false q2]; rfl)⟩
      · refine k1 _ ?_
        conv => whnf
        refine ⟨fun q2 => ?_, fun q2 => ?_⟩ <;> rw [el4] at q2 <;> conv => whnf
        · exact Fin.old (hno (by rw [decide_eq_false q1, decide_eq_false (show ¬ 1 ≤ cols.length by omega)]; rfl)) (.refl _)
        refine k1 _ ?_
        conv => whnf
        refine ⟨fun q3 => ?_, fun q3 => ?_⟩ <;> rw [el4] at q3 <;> conv => whnf
        · exact Fin.old (hno (by rw [decide_eq_false q1, decide_eq_false (show ¬ cols.length ≤ 3 by omega), Bool.and_false]; rfl)) (.refl _)
        refine ⟨fun _ => ?_, fun h => absurd hlt (by rw [el2] at h; exact h)⟩
        conv => whnf
        refine k2 _ ?_
        conv => whnf
        have hc1 : (decide (kd = 2) || (decide (1 ≤ cols.length) && decide (cols.length ≤ 3))) = true := by rw [decide_eq_true (show 1 ≤ cols.length by omega), decide_eq_true (show cols.length ≤ 3 by omega), Bool.and_true, Bool.or_true]
        rw [hc1, Bool.true_and] at hno hs
        refine ⟨fun q4 => ?_, fun q4 => ?_⟩ <;> conv => whnf
        · refine k2 _ ?_
          conv => whnf
          refine ⟨fun q5 => ?_, fun q5 => ?_⟩ <;> rw [el5] at q5 <;> conv => whnf
          · exact Fin.old (hno (by rw [decide_eq_true q4, decide_eq_false (show ¬ 1 ≤ refs.length by omega)]; rfl)) (.refl _)
          refine k2 _ ?_
          conv => whnf
          refine ⟨fun q6 => ?_, fun q6 => ?_⟩ <;> rw [el5] at q6 <;> conv => whnf
          · exact Fin.old (hno (by rw [decide_eq_true q4, decide_eq_false (show ¬ refs.length ≤ 3 by omega), Bool.and_false]; rfl)) (.refl _)
          · exact ⟨hi', rfl, ⟨rfl, rfl, rfl, rfl, trivial⟩, (), trivial, .refl _, hs (by rw [decide_eq_true (show 1 ≤ refs.length by omega), decide_eq_true (show refs.length ≤ 3 by omega), Bool.and_true, Bool.or_true])⟩
        · exact ⟨hi', rfl, ⟨rfl, rfl, rfl, rfl, trivial⟩, (), trivial, .refl _, hs (by rw [decide_eq_false q4]; rfl)⟩
    · have hlt' : ¬ i < t.cons.length := by omega
      obtain ⟨hj, hcc⟩ := hcb i hlt' hi'
      have hee : eachL t countC countI i = countI t.idx[i - t.cons.length] := by rw [eachL, dif_neg hlt', dif_pos hj]
      rw [hcc] at k1
      rw [hee] at hno hs
      generalize t.idx[i - t.cons.length] = c at k1 hno hs
      have e1 : countI c = (decide (1 ≤ c.cols.length) && decide (c.cols.length ≤ 3)) := rfl
      rw [e1] at hno hs
      clear hee e1 hcc hx
      have el4 : (c.cols.map strC).length = c.cols.length := List.length_map ..
      conv => whnf
      refine k1 _ ?_
      conv => whnf
      refine ⟨fun q2 => ?_, fun q2 => ?_⟩ <;> rw [el4] at q2 <;> conv => whnf
      · exact Fin.old (hno (by rw [decide_eq_false (show ¬ 1 ≤ c.cols.length by omega)]; rfl)) (.refl _)
      refine k1 _ ?_
      conv => whnf
      refine ⟨fun q3 => ?_, fun q3 => ?_⟩ <;> rw [el4] at q3 <;> conv => whnf
      · exact Fin.old (hno (by rw [decide_eq_false (show ¬ c.cols.length ≤ 3 by omega), Bool.and_false])) (.refl _)
      refine ⟨fun h => absurd (by rw [el2] at h; exact h) hlt, fun _ => ?_⟩
      conv => whnf
      exact ⟨hi', rfl, ⟨rfl, rfl, rfl, rfl, trivial⟩, (), trivial, .refl _, hs (by rw [decide_eq_true (show 1 ≤ c.cols.length by omega), decide_eq_true (show c.cols.length ≤ 3 by omega)]; rfl)⟩
  obtain rfl := nlt_map ‹_› hi
  have hcounts : countsT t = true := by rw [countsT, hlens, hee countC countI hx]; rfl
  rw [if_neg (by simp [hcounts])]
  clear hcounts hx hlens hk3
  have hk4 : onceT t = false → vI .i64 19 = vI .i64 ((if onceT t = false then 19 else 0 : Nat) : Int) := fun h => by rw [if_pos h]; rfl
  conv => whnf
  have tw1 := twice_is (t.cols.map (·.name)) (by rw [List.length_map]; exact big12 hl1)
  have tw2 := twice_is (namesT t) (by unfold Big; omega)
  refine Is.callB tw1 fun b hb => ?_
  cases b <;> conv => whnf
  rotate_left
  · exact Fin.old (hk4 (by rw [onceT, show unl (t.cols.map (·.name)) = false by simpa using hb]; rfl)) (.refl _)
  refine Is.callB tw2 fun b hb2 => ?_
  cases b <;> conv => whnf
  rotate_left
  · exact Fin.old (hk4 (by rw [onceT, show unl (namesT t) = false by simpa using hb2, Bool.false_and, Bool.and_false])) (.refl _)
  have hu1 : unl (t.cols.map (·.name)) = true := by simpa using hb
  have hu2 : unl (namesT t) = true := by simpa using hb2
  refine Pw.rng (τ := Unit) 12 ls.length (by unfold Big; omega) [1, 9] (fun _ => []) (fun i _ => ∀ k, k < i → eachL t onceC onceI k = true) () rfl ⟨⟩ (fun k hk => absurd hk (Nat.not_lt_zero k)) fun i _ hi hx => Pw.of TP [] ?_
  conv => whnf
  refine ⟨fun h => ?_, fun h => ?_⟩ <;> conv => whnf
  · have hi' := lt_map ‹_›
    have k1 := fun F => ixm (f := lsC) (F := F) hi'
    have tw3 := twice_is ls[i] (big12 (ll2 _ (List.getElem_mem hi')))
    have hno : eachL t onceC onceI i = false → vI .i64 19 = vI .i64 ((if onceT t = false then 19 else 0 : Nat) : Int) := fun h => hk4 (by rw [onceT, eachL_no t h, Bool.and_false, Bool.and_false])
    have hs : eachL t onceC onceI i = true → ∀ k, k < i + 1 → eachL t onceC onceI k = true := fun h k hk => by
      by_cases hki : k = i
      · subst hki; exact h
      · exact hx k (by omega)
    refine k1 _ ?_
    conv => whnf
    by_cases hlt' : i < t.cons.length
    · have k2 := fun F => ixm (f := eCon) (F := F) hlt'
      have hee : eachL t onceC onceI i = onceC t.cons[i] := by rw [eachL, dif_pos hlt']
      obtain ⟨_, hcc⟩ := hca i hlt'
      rw [hcc] at tw3 ⊢
      rw [hee] at hno hs
      have tw4 := twice_is t.cons[i].refs (big12 (o2 _ (List.getElem_mem hlt')).2.2.2.2.1)
      generalize t.cons[i] = c at k2 k1 hno hs tw3 tw4
      have e1 : onceC c = (unl c.cols && unl c.refs) := rfl
      rw [e1] at hno hs
      clear hee e1 hcc hx
      obtain ⟨nm, kd, cols, ⟨k, op, v, n, kids⟩, tb, refs⟩ := c
      simp only at hno hs tw3 tw4
      refine Is.callB tw3 fun b q1 => ?_
      cases b <;> conv => whnf
      rotate_left
      · exact Fin.old (hno (by rw [show unl cols = false by simpa using q1]; rfl)) (.refl _)
      refine ⟨fun _ => ?_, fun h => absurd (by rw [el2]; omega) h⟩
      conv => whnf
      refine k2 _ ?_
      conv => whnf
      refine Is.callB tw4 fun b q2 => ?_
      cases b <;> conv => whnf
      · exact ⟨hi', rfl, ⟨rfl, rfl, trivial⟩, (), trivial, .refl _, hs (by rw [show unl cols = true by simpa using q1, show unl refs = true by simpa using q2]; rfl)⟩
      · exact Fin.old (hno (by rw [show unl refs = false by simpa using q2, Bool.and_false])) (.refl _)
    · obtain ⟨hj, hcc⟩ := hcb i hlt' hi'
      have hee : eachL t onceC onceI i = onceI t.idx[i - t.cons.length] := by rw [eachL, dif_neg hlt', dif_pos hj]
      rw [hcc] at tw3 ⊢
      rw [hee] at hno hs
      generalize t.idx[i - t.cons.length] = c at k1 hno hs tw3
      have e1 : onceI c = unl c.cols := rfl
      rw [e1] at hno hs
      clear hee e1 hcc hx
      refine Is.callB tw3 fun b q1 => ?_
      cases b <;> conv => whnf
      rotate_left
      · exact Fin.old (hno (by simpa using q1)) (.refl _)
      refine ⟨fun h => absurd (by rw [el2] at h; omega) hlt', fun _ => ?_⟩
      conv => whnf
      exact ⟨hi', rfl, ⟨rfl, rfl, trivial⟩, (), trivial, .refl _, hs (by simpa using q1)⟩
  obtain rfl := nlt_map ‹_› hi
  have honce : onceT t = true := by rw [onceT, hu1, hu2, hee onceC onceI hx]; rfl
  exact Fin.old (congrArg (vI .i64) (by rw [if_neg (by simp [honce])]; rfl)) (.refl _)
end Go.Proofs.Ytbmgenifdlgbmaa.D
namespace Go.Proofs.Ytbmgenifdlgbmaa.D
set_option linter.unusedVariables false
set_option linter.unusedSimpArgs false
open Go Go.Proofs.Ytbmgenifdlgbmaa.D.Pm
set_option maxRecDepth 4000
def c17 (x : Con) : Bool := decide (x.kind = 2) && decide (chk1 x = 17)
def cBad (x : Con) : Bool := decide (x.kind = 2) && !decide (chk1 x = 0)
theorem checkE_is3 (s : Bool) (e : Ex) : checkE s e = 0 ∨ checkE s e = 2 ∨ checkE s e = 17 := by
  unfold checkE; split
  · exact .inr (.inr rfl)
  · split
    · exact .inl rfl
    · exact .inr (.inl rfl)
theorem chk1_is3 (x : Con) : chk1 x = 0 ∨ chk1 x = 2 ∨ chk1 x = 17 := by
  unfold chk1; split
  · exact .inr (.inl rfl)
  · exact checkE_is3 _ _
theorem fold_step : ∀ (l : List Con) (w : Nat), (w = 0 ∨ w = 2 ∨ w = 17) → l.foldl stepC w = if (decide (w = 17) || l.any c17) = true then 17 else if (decide (w = 2) || l.any cBad) = true then 2 else 0
  | [], w, hw => by rcases hw with rfl | rfl | rfl <;> rfl
  | x :: l, w, hw => by
    have h3 := chk1_is3 x
    have hw' : stepC w x = 0 ∨ stepC w x = 2 ∨ stepC w x = 17 := by
      unfold stepC
      generalize chk1 x = c at h3 ⊢
      rcases hw with rfl | rfl | rfl <;> rcases h3 with rfl | rfl | rfl <;> (repeat' split) <;> simp
    rw [List.foldl_cons, fold_step l _ hw', List.any_cons, List.any_cons]
    generalize l.any c17 = a
    generalize l.any cBad = b
    unfold stepC c17 cBad
    generalize chk1 x = c at h3 ⊢
    by_cases hk : x.kind = 2
    · simp only [if_pos hk, decide_eq_true hk, Bool.true_and]
      cases a <;> cases b <;> rcases hw with rfl | rfl | rfl <;> rcases h3 with rfl | rfl | rfl <;> rfl
    · simp only [if_neg hk, decide_eq_false hk, Bool.false_and, Bool.false_or]
theorem checksT_eq (t : Tbl) : checksT t = if t.cons.any c17 = true then 17 else if t.cons.any cBad = true then 2 else 0 := by
  rw [checksT, fold_step _ _ (.inl rfl)]; simp
def restT (t : Tbl) : Nat := if checksT t ≠ 0 then checksT t else if shapesT t = false then 2 else 0
theorem any_at {α : Type} {p : α → Bool} {l : List α} {i : Nat} (h : i < l.length) (hp : p l[i] = true) : l.any p = true := List.any_eq_true.2 ⟨_, List.getElem_mem h, hp⟩
theorem checkT_wrong (t : Tbl) : checkT t = if wrongT t ≠ 0 then wrongT t else if thereT t = false then 4 else restT t := by
  unfold checkT wrongT restT
  repeat' split
  all_goals first | rfl | (exfalso; omega) | simp_all
theorem wrong0 {t : Tbl} (h : wrongT t = 0) : kindsT t = true := by
  unfold wrongT at h
  repeat' split at h
  all_goals first | omega | simp_all
theorem col_has (t : Tbl) (s : ByteArray) : decide (colT t s < 0) = !((t.cols.map (·.name)).any fun y => decide (y = s)) := by
  rw [List.any_map]
  have := idx_any (p := fun c : Cl => decide (c.name = s)) (l := t.cols)
  have e : (fun c : Cl => decide (c.name = s)) = ((fun y => decide (y = s)) ∘ fun x : Cl => x.name) := rfl
  rw [← e, ← this, colT]
  by_cases h : idx (fun c : Cl => decide (c.name = s)) t.cols < 0
  · rw [decide_eq_true h, decide_eq_false (by omega)]; rfl
  · rw [decide_eq_false h, decide_eq_true (by omega)]; rfl
theorem thereT_eq (t : Tbl) : thereT t = (rusedT t).all fun s => (t.cols.map (·.name)).any fun y => decide (y = s) := by
  rw [thereT, ← used_any, List.not_any_eq_all_not]
  congr 1; funext s
  rw [col_has]; simp
set_option maxHeartbeats 2000000 in
theorem rcheck14_is (t : Tbl) (ok : okT t) : Is Try.prog 20 [.g (eT t)] (vI .i64 (checkT t : Nat)) := by
  obtain ⟨hl1, o1⟩ := ok.2.2.1
  obtain ⟨hl2, o2⟩ := ok.2.2.2.1
  have rl := rusedT_len t ok
  have hth := thereT_eq t
  rw [checkT_wrong]
  refine Is.of TP Try.func20 rfl rfl (Nat.le_of_ble_eq_true rfl) fun st => Pw.of TP [] ?_
  conv => whnf
  refine (wrong_is t ok).call ?_
  conv => whnf
  refine ⟨fun h => ?_, fun h => ?_⟩ <;> conv => whnf
  · exact Fin.old (congrArg (vI .i64) (by rw [if_pos (by omega)])) (.refl _)
  have hw : wrongT t = 0 := by omega
  have hki := wrong0 hw
  rw [if_neg (by omega)]
  clear hw
  refine (rnames14_is t ok).call ?_
  conv => whnf
  refine (rused_is t ok).call ?_
  conv => whnf
  generalize rusedT t = us at rl hth
  refine Pw.rng (τ := Unit) 7 us.length (by unfold Big; omega) [1, 4, 6] (fun _ => []) (fun i _ => ∀ x ∈ us.take i, ((t.cols.map (·.name)).any fun y => decide (y = x)) = true) () rfl ⟨⟩ (by simp) fun i _ hi hx => Pw.of TP [] ?_
  conv => whnf
  refine ⟨fun h => ?_, fun h => ?_⟩ <;> conv => whnf
  · have hi' := lt_map ‹_›
    refine ixm hi' ?_
    have hs := take_snoc (Q := fun x => ((t.cols.map (·.name)).any fun y => decide (y = x)) = true) hi' hx
    have ha := all_at (p := fun x => ((t.cols.map (·.name)).any fun y => decide (y = x))) hi'
    generalize us[i] = s at hs ha ⊢
    conv => whnf
    refine Is.callB (has_is (t.cols.map (fun x : Cl => x.name)) (by rw [List.length_map]; exact big12 hl1) s) fun b hb => ?_
    cases b <;> conv => whnf
    · exact Fin.old (congrArg (vI .i64) (by rw [if_pos (by rw [hth, ha hb])]; rfl)) (.refl _)
    · exact ⟨hi', rfl, ⟨rfl, rfl, rfl, trivial⟩, (), trivial, .refl _, hs hb⟩
  obtain rfl := nlt_map ‹_› hi
  have hthere : thereT t = true := by rw [hth]; exact all_take (by simpa using hx)
  rw [if_neg (by simp [hthere])]
  clear hthere hth hx
  refine Pw.rng (τ := Bool) 9 t.cons.length (big12 hl2) [1] (fun b => [(8, vB b)]) (fun i b => (∀ x ∈ t.cons.take i, c17 x = false) ∧ b = (t.cons.take i).any cBad) false rfl ⟨rfl, trivial⟩ ⟨by simp, by simp⟩ fun i b hi hx => Pw.of TP [] ?_
  obtain ⟨hx, hb⟩ := hx
  conv => whnf
  refine ⟨fun h => ?_, fun h => ?_⟩ <;> conv => whnf
  · have hi' := lt_map ‹_›
    have k2 := fun F => ixm (f := eCon) (F := F) hi'
    refine k2 _ ?_
    have hs := take_snoc (Q := fun x => c17 x = false) hi' hx
    have ha := any_at (p := c17) hi'
    have hbs := any_take (p := cBad) hi'
    rw [← hb] at hbs
    have hoc := o2 _ (List.getElem_mem hi')
    generalize t.cons[i] = c at hs ha hbs hoc k2 ⊢
    have h1 := rcheck_is c.check hoc.2.2.1.1 (by have := hoc.2.2.1.2; unfold Lim; omega) false
    have h2 := rparams_is c.check hoc.2.2.1.1 (by have := hoc.2.2.1.2; unfold Lim; omega)
    have e1 : c17 c = (decide (c.kind = 2) && decide ((if checkE false c.check = 0 ∧ 0 < paramsE c.check then 2 else checkE false c.check) = 17)) := rfl
    have e2 : cBad c = (decide (c.kind = 2) && !decide ((if checkE false c.check = 0 ∧ 0 < paramsE c.check then 2 else checkE false c.check) = 0)) := rfl
    rw [e1] at hs ha
    rw [e2] at hbs
    clear hoc e1 e2 hx hb
    obtain ⟨nm, kd, cols, ck, tb, refs⟩ := c
    simp only at h1 h2 hs ha hbs
    generalize checkE false ck = e at h1 hs ha hbs
    generalize paramsE ck = q at h2 hs ha hbs
    obtain ⟨k, op, v, n, kids⟩ := ck
    conv => whnf
    refine ⟨fun (q1 : ¬ kd = 2) => ?_, fun (q1 : ¬ ¬ kd = 2) => ?_⟩ <;> conv => whnf
    · exact ⟨hi', rfl, ⟨rfl, trivial⟩, b, ⟨rfl, trivial⟩, .refl _, hs (by rw [decide_eq_false q1]; rfl), by rw [hbs, decide_eq_false q1, Bool.false_and, Bool.or_false]⟩
    have q1' : kd = 2 := Classical.not_not.1 q1
    rw [decide_eq_true q1', Bool.true_and] at hs ha hbs
    refine k2 _ ?_
    conv => whnf
    refine Is.call h1 ?_
    conv => whnf
    refine ⟨fun (q2 : (e : Int) = 17) => ?_, fun (q2 : ¬ (e : Int) = 17) => ?_⟩ <;> conv => whnf
    · have h17 := ha (decide_eq_true (by rw [if_neg (by omega)]; omega))
      exact Fin.old (congrArg (vI .i64) (by rw [restT, checksT_eq, if_pos h17, if_pos (by omega)]; rfl)) (.refl _)
    have hs' := hs (decide_eq_false (by split <;> omega))
    cases b <;> conv => whnf
    · refine ⟨fun (q3 : ¬ (e : Int) = 0) => ?_, fun (q3 : ¬ ¬ (e : Int) = 0) => ?_⟩ <;> conv => whnf
      · exact ⟨hi', rfl, ⟨rfl, trivial⟩, true, ⟨rfl, trivial⟩, .refl _, hs', by rw [hbs, if_neg (by omega), decide_eq_false (by omega)]; rfl⟩
      refine k2 _ ?_
      conv => whnf
      refine Is.call h2 ?_
      conv => whnf
      have q3' : e = 0 := by omega
      refine ⟨fun (q4 : 0 < q) => ?_, fun (q4 : ¬ 0 < q) => ?_⟩ <;> conv => whnf
      · exact ⟨hi', rfl, ⟨rfl, trivial⟩, true, ⟨rfl, trivial⟩, .refl _, hs', by rw [hbs, if_pos ⟨q3', q4⟩]; rfl⟩
      · exact ⟨hi', rfl, ⟨rfl, trivial⟩, false, ⟨rfl, trivial⟩, .refl _, hs', by rw [hbs, if_neg (fun h => q4 h.2), decide_eq_true q3']; rfl⟩
    · exact ⟨hi', rfl, ⟨rfl, trivial⟩, true, ⟨rfl, trivial⟩, .refl _, hs', by rw [hbs]; rfl⟩
  obtain rfl := nlt_map ‹_› hi
  rw [List.take_length] at hx hb
  have h17 : t.cons.any c17 = false := List.any_eq_false.2 (fun x h => by simp [hx x h])
  have hct : checksT t = if b = true then 2 else 0 := by rw [checksT_eq, h17, hb]; simp
  clear hx hb h17
  cases b <;> conv => whnf
  rotate_left
  · exact Fin.old (congrArg (vI .i64) (by rw [restT, hct]; rfl)) (.refl _)
  have hr : restT t = if shapesT t = false then 2 else 0 := by rw [restT, hct]; rfl
  rw [hr]
  clear hct hr
  simp only [kindsT, Bool.and_eq_true, List.all_eq_true] at hki
  refine Pw.rng (τ := Unit) 11 t.cons.length (big12 hl2) [1] (fun _ => []) (fun i _ => ∀ x ∈ t.cons.take i, shapeC x = true) () rfl ⟨⟩ (by simp) fun i _ hi hx => Pw.of TP [] ?_
  conv => whnf
  refine ⟨fun h => ?_, fun h => ?_⟩ <;> conv => whnf
  · have hi' := lt_map ‹_›
    refine ixm hi' ?_
    have hoc := o2 _ (List.getElem_mem hi')
    have hs := take_snoc (Q := fun x => shapeC x = true) hi' hx
    have ha := all_at (p := shapeC) hi'
    have hk := hki.2.2 _ (List.getElem_mem hi')
    generalize t.cons[i] = c at hs ha hoc hk ⊢
    have h1 := rnone_is c.check hoc.2.2.1.1
    have h2 := risName_is c.table (Nat.le_of_lt hoc.2.2.2.1.lt)
    rw [← isName_eq] at h2
    have el1 : (c.cols.map strC).length = c.cols.length := List.length_map ..
    have el2 : (c.refs.map strC).length = c.refs.length := List.length_map ..
    have hno : shapeC c = false → vI .i64 2 = vI .i64 ((if shapesT t = false then 2 else 0 : Nat) : Int) := fun h => by rw [if_pos (by rw [shapesT, ha h])]; rfl
    obtain ⟨S, hS⟩ : ∃ S : Prop, S = ∀ x ∈ t.cons.take (i + 1), shapeC x = true := ⟨_, rfl⟩
    have hyes : shapeC c = true → S := fun h => hS ▸ hs h
    generalize hR : vI .i64 ((if shapesT t = false then 2 else 0 : Nat) : Int) = R at hno ⊢
    clear ha hs hoc hki
    unfold shapeC at hno hyes
    simp only [kindOkC, Bool.and_eq_true, decide_eq_true_eq] at hk
    obtain ⟨nm, kd, cols, ck, tb, refs⟩ := c
    simp only at h1 h2 el1 el2 hno hyes hk
    generalize noneE ck = nb at h1 hno hyes
    generalize isName tb = ib at h2 hno hyes
    obtain ⟨k, op, v, n, kids⟩ := ck
    conv => whnf
    repeat' (first | (refine ⟨fun h => ?_, fun h => ?_⟩ <;> conv => whnf) | (refine Is.callB (h1) fun b hb => ?_; cases b <;> conv => whnf) | (refine Is.callB (h2) fun b hb => ?_; cases b <;> conv => whnf) | fail)
    all_goals clear h1 h2 hR rl o1 o2 ok
    all_goals simp only [List.length_map] at *
    all_goals first
      | (refine Fin.old (hno ?_) (.refl _); clear hno hyes; first | grind | (have l1 : cols.length = 0 := (by omega); have l2 : refs.length = 0 := (by omega); grind) | (have l2 : refs.length = 0 := (by omega); grind) | (have l2 : refs.length = cols.length := (by omega); grind) | (have l2 : ¬ refs.length = 0 := (by omega); grind) | (have l2 : ¬ cols.length = 0 := (by omega); grind) | (have l2 : ¬ refs.length = cols.length := (by omega); grind))
      | (refine ⟨hi', rfl, ⟨rfl, trivial⟩, (), trivial, .refl _, hS ▸ hyes ?_⟩; clear hno hyes; first | grind | (have l1 : cols.length = 0 := (by omega); have l2 : refs.length = 0 := (by omega); grind) | (have l2 : refs.length = 0 := (by omega); grind) | (have l2 : refs.length = cols.length := (by omega); grind) | (have l2 : ¬ refs.length = 0 := (by omega); grind) | (have l2 : ¬ cols.length = 0 := (by omega); grind) | (have l2 : ¬ refs.length = cols.length := (by omega); grind))
      | trace_state
  obtain rfl := nlt_map ‹_› hi
  exact Fin.old (congrArg (vI .i64) (by rw [if_neg]; rfl; simp only [shapesT]; rw [all_take (by simpa using hx)]; simp)) (.refl _)
end Go.Proofs.Ytbmgenifdlgbmaa.D
namespace Go.Proofs.Ytbmgenifdlgbmaa.D
set_option linter.unusedVariables false
set_option linter.unusedSimpArgs false
open Go Go.Proofs.Ytbmgenifdlgbmaa.D.Pm
set_option maxRecDepth 4000
def I64 (n : Int) : Prop := (Lit.int .i64 n).wf = true
def wfV (v : Val) : Prop := I64 v.k ∧ I64 v.n ∧ v.s.size ≤ maxLen
mutual
def wfE : Ex → Prop
  | .mk k op v n kids => I64 k ∧ I64 op ∧ wfV v ∧ n.size ≤ maxLen ∧ kids.length ≤ maxLen ∧ wfEs kids
def wfEs : List Ex → Prop
  | [] => True
  | e :: l => wfE e ∧ wfEs l
end
theorem wfEs_of : ∀ {l : List Ex}, (∀ e ∈ l, wfE e) → wfEs l
  | [], _ => trivial
  | e :: l, h => ⟨h e (List.mem_cons_self ..), wfEs_of fun x hx => h x (List.mem_cons_of_mem _ hx)⟩
theorem wfEs_all : ∀ {l : List Ex}, wfEs l → ∀ e ∈ l, wfE e
  | e :: l, h, x, hx => by
    rcases List.mem_cons.1 hx with rfl | hx
    · exact h.1
    · exact wfEs_all h.2 x hx
def wfL (l : List ByteArray) : Prop := l.length ≤ maxLen ∧ ∀ s ∈ l, s.size ≤ maxLen
def wfCl (c : Cl) : Prop := c.name.size ≤ maxLen ∧ I64 c.typ
def wfCon (x : Con) : Prop := x.name.size ≤ maxLen ∧ I64 x.kind ∧ wfL x.cols ∧ wfE x.check ∧ x.table.size ≤ maxLen ∧ wfL x.refs
def wfIx (x : Ix) : Prop := x.name.size ≤ maxLen ∧ wfL x.cols
def wfT (t : Tbl) : Prop := t.name.size ≤ maxLen ∧ t.owner.size ≤ maxLen ∧ I64 t.version ∧ (t.cols.length ≤ maxLen ∧ ∀ c ∈ t.cols, wfCl c) ∧ (t.cons.length ≤ maxLen ∧ ∀ c ∈ t.cons, wfCon c) ∧ (t.idx.length ≤ maxLen ∧ ∀ c ∈ t.idx, wfIx c)
theorem rdV (m : Nat) : Rd Try.prog 23 eV wfV m :=
  (Rd.st (fun a : Int × Int × ByteArray => (⟨a.1, a.2.1, a.2.2⟩ : Val)) (by exact fun a => ⟨rfl, fun h => h⟩) Try.underlying23 (by kernel_rfl)
    (RdF.cons (s1 := 1) rfl (by kernel_rfl) (Rd.int Try.underlying3) (RdF.cons (s1 := 1) rfl (by kernel_rfl) (Rd.int Try.underlying3) (RdF.last (sz := 1) rfl (by kernel_rfl) (Rd.str Try.underlying9))))).less
theorem rdE : ∀ m, Rd Try.prog 26 eE wfE m
  | 0 => Rd.zero
  | m + 1 => Rd.st (fun a : Int × Int × Val × ByteArray × List Ex => Ex.mk a.1 a.2.1 a.2.2.1 a.2.2.2.1 a.2.2.2.2) (by exact fun a => ⟨by rw [eE, eEs_map]; rfl, fun h => ⟨h.1, h.2.1, h.2.2.1, h.2.2.2.1, h.2.2.2.2.1, wfEs_of h.2.2.2.2.2⟩⟩) Try.underlying26 (by kernel_rfl)
      (RdF.cons (s1 := 1) rfl (by kernel_rfl) (Rd.int Try.underlying3) (RdF.cons (s1 := 1) rfl (by kernel_rfl) (Rd.int Try.underlying3) (RdF.cons (s1 := 3) rfl (by kernel_rfl) (rdV m) (RdF.cons (s1 := 1) rfl (by kernel_rfl) (Rd.str Try.underlying9)
        (RdF.last (sz := 1) rfl (by kernel_rfl) (Rd.sl (sz := 7) (by decide) Try.underlying24 (by kernel_rfl) (rdE m)))))))
theorem rdS (m : Nat) : Rd Try.prog 43 (fun l => [eS l]) wfL m := Rd.sl (sz := 1) (by decide) Try.underlying43 (by kernel_rfl) (Rd.str Try.underlying9)
theorem rdCl (m : Nat) : Rd Try.prog 58 eCl wfCl m :=
  (Rd.st (fun a : ByteArray × Int × Bool => (⟨a.1, a.2.1, a.2.2⟩ : Cl)) (by exact fun a => ⟨rfl, fun h => ⟨h.1, h.2.1⟩⟩) Try.underlying58 (by kernel_rfl)
    (RdF.cons (s1 := 1) rfl (by kernel_rfl) (Rd.str Try.underlying9) (RdF.cons (s1 := 1) rfl (by kernel_rfl) (Rd.int Try.underlying3) (RdF.last (sz := 1) rfl (by kernel_rfl) (Rd.bool Try.underlying4))))).less
theorem rdIx (m : Nat) : Rd Try.prog 71 eIx wfIx m :=
  (Rd.st (fun a : ByteArray × List ByteArray => (⟨a.1, a.2⟩ : Ix)) (by exact fun a => ⟨rfl, fun h => h⟩) Try.underlying71 (by kernel_rfl)
    (RdF.cons (s1 := 1) rfl (by kernel_rfl) (Rd.str Try.underlying9) (RdF.last (sz := 1) rfl (by kernel_rfl) (rdS m)))).less
theorem rdCon (m : Nat) : Rd Try.prog 56 eCon wfCon m :=
  (Rd.st (fun a : ByteArray × Int × List ByteArray × Ex × ByteArray × List ByteArray => (⟨a.1, a.2.1, a.2.2.1, a.2.2.2.1, a.2.2.2.2.1, a.2.2.2.2.2⟩ : Con)) (by exact fun a => ⟨rfl, fun h => h⟩) Try.underlying56 (by kernel_rfl)
    (RdF.cons (s1 := 1) rfl (by kernel_rfl) (Rd.str Try.underlying9) (RdF.cons (s1 := 1) rfl (by kernel_rfl) (Rd.int Try.underlying3) (RdF.cons (s1 := 1) rfl (by kernel_rfl) (rdS m) (RdF.cons (s1 := 7) rfl (by kernel_rfl) (rdE m)
      (RdF.cons (s1 := 1) rfl (by kernel_rfl) (Rd.str Try.underlying9) (RdF.last (sz := 1) rfl (by kernel_rfl) (rdS m)))))))).less
theorem rdT (m : Nat) : Rd Try.prog 39 eT wfT m :=
  (Rd.st (fun a : ByteArray × ByteArray × Int × List Cl × List Con × List Ix => (⟨a.1, a.2.1, a.2.2.1, a.2.2.2.1, a.2.2.2.2.1, a.2.2.2.2.2⟩ : Tbl)) (by exact fun a => ⟨rfl, fun h => h⟩) Try.underlying39 (by kernel_rfl)
    (RdF.cons (s1 := 1) rfl (by kernel_rfl) (Rd.str Try.underlying9) (RdF.cons (s1 := 1) rfl (by kernel_rfl) (Rd.str Try.underlying9) (RdF.cons (s1 := 1) rfl (by kernel_rfl) (Rd.int Try.underlying3)
      (RdF.cons (s1 := 1) rfl (by kernel_rfl) (Rd.sl (sz := 3) (by decide) Try.underlying35 (by kernel_rfl) (rdCl m))
      (RdF.cons (s1 := 1) rfl (by kernel_rfl) (Rd.sl (sz := 12) (by decide) Try.underlying36 (by kernel_rfl) (rdCon m))
      (RdF.last (sz := 1) rfl (by kernel_rfl) (Rd.sl (sz := 2) (by decide) Try.underlying37 (by kernel_rfl) (rdIx m))))))))).less
end Go.Proofs.Ytbmgenifdlgbmaa.D
