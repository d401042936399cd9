/- Words and contracts: a plain machine over the model, and what the functions that a law reaches come to, each for every input that its theorem names. -/
import Derived.Test.YtgbdhakkgnmeoaaGreatK1
import Derived.Test.YtgbdhakkgnmeoaaGreatV3
import Derived.Test.YtgbdhakkgnmeoaaGreatV2
namespace Go.Proofs.YtgbdhakkgnmeoaaGreat.D
set_option linter.unusedVariables false
set_option linter.unusedSimpArgs false
open Go Go.Proofs.YtgbdhakkgnmeoaaGreat.D.Pm
set_option maxRecDepth 4000
theorem any_take {α : Type} {p : α → Bool} {l : List α} {i : Nat} (h : i < l.length) : (l.take (i + 1)).any p = ((l.take i).any p || p l[i]) := by
  rw [List.take_add_one, List.getElem?_eq_getElem h, List.any_append]; simp
end Go.Proofs.YtgbdhakkgnmeoaaGreat.D
namespace Go.Proofs.YtgbdhakkgnmeoaaGreat.D
set_option linter.unusedVariables false
set_option linter.unusedSimpArgs false
open Go Go.Proofs.YtgbdhakkgnmeoaaGreat.D.Pm
set_option maxRecDepth 4000
structure Cl where
  name : ByteArray
  typ : Int
  nn : Bool
structure Con where
  name : ByteArray
  kind : Int
  cols : List ByteArray
  check : Ex
  table : ByteArray
  refs : List ByteArray
structure Ix where
  name : ByteArray
  cols : List ByteArray
structure Tbl where
  name : ByteArray
  owner : ByteArray
  version : Int
  cols : List Cl
  cons : List Con
  idx : List Ix
def eCl (c : Cl) : List AC := [.v (.string c.name), .v (.int .i64 c.typ), .v (.bool c.nn)]
def eCon (x : Con) : List AC := .v (.string x.name) :: .v (.int .i64 x.kind) :: eS x.cols :: (eE x.check ++ [.v (.string x.table), eS x.refs])
def eIx (x : Ix) : List AC := [.v (.string x.name), eS x.cols]
def eT (t : Tbl) : List AC := [.v (.string t.name), .v (.string t.owner), .v (.int .i64 t.version), .sl 3 (t.cols.map eCl), .sl 12 (t.cons.map eCon), .sl 2 (t.idx.map eIx)]
def okS (s : ByteArray) : Prop := s.size ≤ 100
def okSs (l : List ByteArray) : Prop := l.length ≤ 12 ∧ ∀ s ∈ l, okS s
def okC (x : Con) : Prop := okS x.name ∧ okSs x.cols ∧ (okE x.check ∧ nodes x.check ≤ 60) ∧ okS x.table ∧ okSs x.refs
def okI (x : Ix) : Prop := okS x.name ∧ okSs x.cols
def okT (t : Tbl) : Prop := okS t.name ∧ okS t.owner ∧ (t.cols.length ≤ 12 ∧ ∀ c ∈ t.cols, okS c.name) ∧ (t.cons.length ≤ 12 ∧ ∀ x ∈ t.cons, okC x) ∧ (t.idx.length ≤ 12 ∧ ∀ x ∈ t.idx, okI x)
theorem okS.lt {s : ByteArray} (h : okS s) : s.size < Big := by unfold okS at h; unfold Big; omega
theorem big12 {n : Nat} (h : n ≤ 12) : n ≤ Big := by unfold Big; omega
theorem all_take2 {α : Type} {p : α → Bool} {l : List α} {i : Nat} (h : i < l.length) : (l.take (i + 1)).all p = ((l.take i).all p && p l[i]) := by
  rw [List.take_add_one, List.getElem?_eq_getElem h, List.all_append]; simp
theorem map_take2 {α β : Type} {f : α → β} {l : List α} {i : Nat} (h : i < l.length) : (l.take (i + 1)).map f = (l.take i).map f ++ [f l[i]] := by
  rw [List.take_add_one, List.getElem?_eq_getElem h, List.map_append]; rfl
theorem flat_take2 {α β : Type} {f : α → List β} {l : List α} {i : Nat} (h : i < l.length) : (l.take (i + 1)).flatMap f = (l.take i).flatMap f ++ f l[i] := by
  rw [List.take_add_one, List.getElem?_eq_getElem h, List.flatMap_append]; simp
theorem strC_row (l : List ByteArray) : ∀ r ∈ l.map strC, r.length = 1 := fun r hr => by obtain ⟨x, _, rfl⟩ := List.mem_map.1 hr; rfl
def keyed (n : Nat) : Bool := decide (1 ≤ n) && decide (n ≤ 3)
end Go.Proofs.YtgbdhakkgnmeoaaGreat.D
namespace Go.Proofs.YtgbdhakkgnmeoaaGreat.D
set_option linter.unusedVariables false
set_option linter.unusedSimpArgs false
open Go Go.Proofs.YtgbdhakkgnmeoaaGreat.D.Pm
set_option maxRecDepth 4000
def namesT (t : Tbl) : List ByteArray := t.cons.map (·.name) ++ t.idx.map (·.name)
def namedT (t : Tbl) : Bool := isName t.name && (isName t.owner && (t.cols.all (fun c => isName c.name) && (t.cons.all (fun c => isName c.name) && t.idx.all (fun c => isName c.name))))
end Go.Proofs.YtgbdhakkgnmeoaaGreat.D
namespace Go.Proofs.YtgbdhakkgnmeoaaGreat.D
set_option linter.unusedVariables false
set_option linter.unusedSimpArgs false
open Go Go.Proofs.YtgbdhakkgnmeoaaGreat.D.Pm
set_option maxRecDepth 4000
def typOkC (c : Cl) : Bool := decide (1 ≤ c.typ) && decide (c.typ ≤ 3)
def kindOkC (c : Con) : Bool := decide (1 ≤ c.kind) && decide (c.kind ≤ 3)
def kindsT (t : Tbl) : Bool := decide (0 ≤ t.version) && (t.cols.all typOkC && t.cons.all kindOkC)
def countC (c : Con) : Bool := (decide (c.kind = 2) || keyed c.cols.length) && (!decide (c.kind = 3) || keyed c.refs.length)
def countI (c : Ix) : Bool := keyed c.cols.length
def lensT (t : Tbl) : Bool := decide (1 ≤ t.cols.length) && (decide (t.cols.length ≤ 6) && (decide (t.cons.length ≤ 6) && decide (t.idx.length ≤ 3)))
def countsT (t : Tbl) : Bool := lensT t && (t.cons.all countC && t.idx.all countI)
end Go.Proofs.YtgbdhakkgnmeoaaGreat.D
namespace Go.Proofs.YtgbdhakkgnmeoaaGreat.D
set_option linter.unusedVariables false
set_option linter.unusedSimpArgs false
open Go Go.Proofs.YtgbdhakkgnmeoaaGreat.D.Pm
set_option maxRecDepth 4000
theorem addName_len (out : List ByteArray) (e : Ex) : (addName out e).length ≤ out.length + 1 := by
  unfold addName; split
  · simp
  · omega
theorem foldName_len : ∀ (l : List Ex) (out : List ByteArray), (l.foldl addName out).length ≤ out.length + l.length
  | [], out => by simp
  | e :: l, out => by
    rw [List.foldl_cons, List.length_cons]
    have h1 := foldName_len l (addName out e)
    have h2 := addName_len out e
    omega
theorem namesE_len (e : Ex) : (namesE e).length ≤ nodes e := by
  rw [namesE, fold_parts, ← parts_len]
  have := foldName_len (parts e) []
  simpa using this
def usedC (x : Con) : List ByteArray := x.cols ++ (if x.kind = 2 then namesE x.check else [])
def usedT (t : Tbl) : List ByteArray := t.cons.flatMap usedC ++ t.idx.flatMap Ix.cols
theorem usedC_len {x : Con} (h : okC x) : (usedC x).length ≤ 72 := by
  have h1 := h.2.1.1
  have h2 := h.2.2.1.2
  have h3 := namesE_len x.check
  rw [usedC, List.length_append]
  split
  · omega
  · simp; omega
end Go.Proofs.YtgbdhakkgnmeoaaGreat.D
namespace Go.Proofs.YtgbdhakkgnmeoaaGreat.D
set_option linter.unusedVariables false
set_option linter.unusedSimpArgs false
open Go Go.Proofs.YtgbdhakkgnmeoaaGreat.D.Pm
set_option maxRecDepth 4000
theorem idxF_is (l : List ByteArray) (hl : l.length ≤ Big) (g : Nat) (caps : List AC) (p : ByteArray → Bool) (hf : ∀ e ∈ l, Is Tryz.prog g (vS e :: caps.map .c) (vB (p e))) :
    Is Tryz.prog 124 [.c (eS l), .c (.fn g caps)] (vI .i64 (idx p l)) := by
  refine Is.of TP Tryz.func124 rfl rfl (Nat.le_of_ble_eq_true rfl) fun st => Pw.of TP [] ?_
  conv => whnf
  refine Pw.rng (τ := Unit) 8 l.length hl [0, 1, 7] (fun _ => []) (fun i _ => ∀ x ∈ l.take i, p x = false) () rfl trivial (by simp) fun i _ hi hx => Pw.of TP [] ?_
  conv => whnf
  repeat' (first | (refine ⟨fun h => ?_, fun h => ?_⟩ <;> conv => whnf) | fail)
  · have hi' := lt_map ‹_›
    refine ixm hi' ?_
    have hm := hf l[i] (List.getElem_mem hi')
    have hs := take_snoc (Q := fun x => p x = false) hi' hx
    have ha := idx_at hi' hx
    generalize l[i] = e at hm hs ha ⊢
    conv => whnf
    refine Is.callB hm fun b hb => ?_
    cases b <;> conv => whnf
    · exact ⟨hi', rfl, ⟨rfl, rfl, rfl, trivial⟩, (), trivial, .refl _, hs hb⟩
    · exact Fin.old (congrArg (vI .i64) (ha hb).symm) (.refl _)
  · obtain rfl := nlt_map ‹_› hi
    exact Fin.old (congrArg (vI .i64) (idx_no (by simpa using hx)).symm) (.refl _)
theorem anyF_is (l : List ByteArray) (hl : l.length ≤ Big) (g : Nat) (caps : List AC) (p : ByteArray → Bool) (hf : ∀ e ∈ l, Is Tryz.prog g (vS e :: caps.map .c) (vB (p e))) :
    Is Tryz.prog 104 [.c (eS l), .c (.fn g caps)] (vB (l.any p)) := by
  refine Is.of TP Tryz.func104 rfl rfl (Nat.le_of_ble_eq_true rfl) fun st => Pw.of TP [] ?_
  conv => whnf
  refine Is.callI (idxF_is l hl g caps p hf) fun b hb => ?_
  conv => whnf
  repeat' (first | (refine ⟨fun h => ?_, fun h => ?_⟩ <;> conv => whnf) | fail)
  · (refine Fin.old (congrArg vB ?_) (.refl _); rw [← idx_any, hb]; exact (decide_eq_true ‹_›).symm)
  · (refine Fin.old (congrArg vB ?_) (.refl _); rw [← idx_any, hb]; exact (decide_eq_false ‹_›).symm)
def colT (t : Tbl) (s : ByteArray) : Int := idx (fun c => decide (c.name = s)) t.cols
def thereT (t : Tbl) : Bool := !(usedT t).any fun s => decide (colT t s < 0)
theorem flat_len {α β : Type} (f : α → List β) (m : Nat) : ∀ l : List α, (∀ x ∈ l, (f x).length ≤ m) → (l.flatMap f).length ≤ l.length * m
  | [], _ => by simp
  | a :: l, h => by
    rw [List.flatMap_cons, List.length_append, List.length_cons, Nat.succ_mul]
    have h1 := h a (List.mem_cons_self ..)
    have h2 := flat_len f m l (fun x hx => h x (List.mem_cons_of_mem _ hx))
    omega
theorem usedT_len (t : Tbl) (ok : okT t) : (usedT t).length ≤ 1008 := by
  have h1 := flat_len usedC 72 t.cons (fun x hx => usedC_len (ok.2.2.2.1.2 x hx))
  have h2 := flat_len Ix.cols 12 t.idx (fun x hx => (ok.2.2.2.2.2 x hx).2.1)
  have h3 := ok.2.2.2.1.1
  have h4 := ok.2.2.2.2.1
  rw [usedT, List.length_append]
  have h5 : t.cons.length * 72 ≤ 12 * 72 := Nat.mul_le_mul_right _ h3
  have h6 : t.idx.length * 12 ≤ 12 * 12 := Nat.mul_le_mul_right _ h4
  omega
end Go.Proofs.YtgbdhakkgnmeoaaGreat.D
namespace Go.Proofs.YtgbdhakkgnmeoaaGreat.D
set_option linter.unusedVariables false
set_option linter.unusedSimpArgs false
open Go Go.Proofs.YtgbdhakkgnmeoaaGreat.D.Pm
set_option maxRecDepth 4000
/-- what one check's expression comes to -/
def chk1 (x : Con) : Nat := if checkE false x.check = 0 ∧ 0 < paramsE x.check then 2 else checkE false x.check
def stepC (w : Nat) (x : Con) : Nat := if x.kind = 2 then (if chk1 x = 17 ∨ w = 0 then max w (chk1 x) else w) else w
def checksT (t : Tbl) : Nat := t.cons.foldl stepC 0
theorem step_eq (w e : Nat) (q : Int) : (if (if e = 0 ∧ 0 < q then 2 else e) = 17 ∨ w = 0 then max w (if e = 0 ∧ 0 < q then 2 else e) else w) = (if e = 0 ∧ 0 < q then (if w = 0 then 2 else w) else if e = 17 ∨ w = 0 then max w e else w) := by
  by_cases hc : e = 0 ∧ 0 < q
  · simp only [if_pos hc]
    by_cases hw : w = 0 <;> simp [hw]
  · simp only [if_neg hc]
end Go.Proofs.YtgbdhakkgnmeoaaGreat.D
namespace Go.Proofs.YtgbdhakkgnmeoaaGreat.D
set_option linter.unusedVariables false
set_option linter.unusedSimpArgs false
open Go Go.Proofs.YtgbdhakkgnmeoaaGreat.D.Pm
set_option maxRecDepth 4000
def zeroE : Ex := .mk 0 0 ⟨0, 0, ⟨#[]⟩⟩ ⟨#[]⟩ []
/-- the expression that is none, as it is made -/
def zcs : List AC := [.v (.int .i64 0), .v (.int .i64 0), .v (.int .i64 0), .v (.int .i64 0), .v (.string ⟨#[]⟩), .v (.string ⟨#[]⟩), .v (.slice none 0 0)]
theorem zcs_fv (st : Sto) : FV (fun _ => false) st (.g zcs) (.g (eE zeroE)) := by
  refine .g _ _ rfl fun j c c' h1 h2 => ?_
  match j, h1, h2 with
  | 0, h1, h2 => cases h1; cases h2; exact .refl _
  | 1, h1, h2 => cases h1; cases h2; exact .refl _
  | 2, h1, h2 => cases h1; cases h2; exact .refl _
  | 3, h1, h2 => cases h1; cases h2; exact .refl _
  | 4, h1, h2 => cases h1; cases h2; exact .refl _
  | 5, h1, h2 => cases h1; cases h2; exact .refl _
  | 6, h1, h2 => cases h1; cases h2; exact .nil 7
  | j + 7, h1, h2 => simp [zcs] at h1
theorem sameZ_is (f : Nat) (e : Ex) (h : Is Tryz.prog f [.g (eE e), .g (eE zeroE)] (vB (eqE e zeroE))) : Is Tryz.prog f [.g (eE e), .g zcs] (vB (eqE e zeroE)) := fun st => by
  refine Does.args ?_ ?_ (h st)
  · rfl
  · intro j r r' h1 h2
    match j, h1, h2 with
    | 0, h1, h2 => cases h1; cases h2; exact .refl _
    | 1, h1, h2 => cases h1; cases h2; exact zcs_fv st
    | j + 2, h1, h2 => simp at h1
def noneE (e : Ex) : Bool := eqE e zeroE
def shapeC (x : Con) : Bool :=
  if x.kind = 1 then noneE x.check && (decide (x.table = ⟨#[]⟩) && decide (x.refs.length = 0))
  else if x.kind = 2 then decide (x.cols.length = 0) && (decide (x.table = ⟨#[]⟩) && decide (x.refs.length = 0))
  else if x.kind = 3 then noneE x.check && (isName x.table && decide (x.refs.length = x.cols.length))
  else false
def shapesT (t : Tbl) : Bool := t.cons.all shapeC
end Go.Proofs.YtgbdhakkgnmeoaaGreat.D
namespace Go.Proofs.YtgbdhakkgnmeoaaGreat.D
set_option linter.unusedVariables false
set_option linter.unusedSimpArgs false
open Go Go.Proofs.YtgbdhakkgnmeoaaGreat.D.Pm
set_option maxRecDepth 4000
theorem addKey_len : ∀ (l ks : List ByteArray), ks.Nodup → ((l.foldl addKey ks).length = ks.length + l.length ↔ l.Nodup ∧ ∀ s ∈ l, s ∉ ks) ∧ (l.foldl addKey ks).length ≤ ks.length + l.length
  | [], ks, hk => by simp
  | s :: l, ks, hk => by
    rw [List.foldl_cons]
    by_cases hs : s ∈ ks
    · have e : addKey ks s = ks := by rw [addKey, if_pos (any_mem.2 hs)]
      rw [e]
      obtain ⟨h1, h2⟩ := addKey_len l ks hk
      refine ⟨⟨fun h => ?_, fun h => absurd hs (h.2 s (List.mem_cons_self ..))⟩, ?_⟩
      · simp only [List.length_cons] at h; omega
      · simp only [List.length_cons]; omega
    · have e : addKey ks s = ks ++ [s] := by rw [addKey, if_neg (fun h => hs (any_mem.1 h))]
      rw [e]
      have hk' : (ks ++ [s]).Nodup := by
        rw [List.nodup_append]
        refine ⟨hk, by simp, fun a ha b hb => ?_⟩
        simp at hb
        subst hb
        exact fun e => hs (e ▸ ha)
      obtain ⟨h1, h2⟩ := addKey_len l (ks ++ [s]) hk'
      simp only [List.length_append, List.length_cons, List.length_nil, Nat.zero_add] at h1 h2 ⊢
      refine ⟨⟨fun h => ?_, fun h => ?_⟩, by omega⟩
      · have h3 := h1.1 (by omega)
        refine ⟨List.nodup_cons.2 ⟨fun hm => h3.2 s hm (by simp), h3.1⟩, fun x hx => ?_⟩
        rcases List.mem_cons.1 hx with rfl | hx
        · exact hs
        · exact fun hk => h3.2 x hx (by simp [hk])
      · have h4 := List.nodup_cons.1 h.1
        have h5 := h1.2 ⟨h4.2, fun x hx hm => by
          rcases List.mem_append.1 hm with hm | hm
          · exact h.2 x (List.mem_cons_of_mem _ hx) hm
          · simp at hm; subst hm; exact h4.1 hx⟩
        omega
def unl (l : List ByteArray) : Bool := decide l.Nodup
end Go.Proofs.YtgbdhakkgnmeoaaGreat.D
namespace Go.Proofs.YtgbdhakkgnmeoaaGreat.D
set_option linter.unusedVariables false
set_option linter.unusedSimpArgs false
open Go Go.Proofs.YtgbdhakkgnmeoaaGreat.D.Pm
set_option maxRecDepth 4000
def onceC (x : Con) : Bool := unl x.cols && unl x.refs
def onceI (x : Ix) : Bool := unl x.cols
def onceT (t : Tbl) : Bool := unl (t.cols.map (·.name)) && (unl (namesT t) && (t.cons.all onceC && t.idx.all onceI))
theorem namesT_len (t : Tbl) (ok : okT t) : (namesT t).length ≤ 24 := by
  have h1 := ok.2.2.2.1.1
  have h2 := ok.2.2.2.2.1
  rw [namesT, List.length_append, List.length_map, List.length_map]; omega
def checkT (t : Tbl) : Nat :=
  if namedT t = false then 18 else if kindsT t = false then 2 else if countsT t = false then 3 else if onceT t = false then 19 else if thereT t = false then 4 else if checksT t ≠ 0 then checksT t else if shapesT t = false then 2 else 0
end Go.Proofs.YtgbdhakkgnmeoaaGreat.D
namespace Go.Proofs.YtgbdhakkgnmeoaaGreat.D
set_option linter.unusedVariables false
set_option linter.unusedSimpArgs false
open Go Go.Proofs.YtgbdhakkgnmeoaaGreat.D.Pm
set_option maxRecDepth 4000
def cl1 : Cl := ⟨⟨#[97]⟩, 1, false⟩
def tbl1 : Tbl := ⟨⟨#[116]⟩, ⟨#[114, 111, 111, 116]⟩, 0, [cl1], [], []⟩
def tbl2 : Tbl := ⟨⟨#[116]⟩, ⟨#[114, 111, 111, 116]⟩, 0, [cl1, cl1], [], []⟩
instance (s : ByteArray) : Decidable (okS s) := inferInstanceAs (Decidable (s.size ≤ 100))
theorem ok1 : okT tbl1 := by refine ⟨by decide, by decide, ⟨by decide, ?_⟩, ⟨by decide, ?_⟩, ⟨by decide, ?_⟩⟩ <;> intro c hc <;> simp [tbl1] at hc; subst hc; decide
theorem ok2 : okT tbl2 := by refine ⟨by decide, by decide, ⟨by decide, ?_⟩, ⟨by decide, ?_⟩, ⟨by decide, ?_⟩⟩ <;> intro c hc <;> simp [tbl2] at hc; subst hc; decide
theorem check1 : checkT tbl1 = 0 := by decide +kernel
theorem check2 : checkT tbl2 = 19 := by decide +kernel
theorem col1 : colT tbl1 ⟨#[97]⟩ = 0 := by decide +kernel
def tcs1 : List AC := [.v (.string ⟨#[116]⟩), .v (.string ⟨#[114, 111, 111, 116]⟩), .v (.int .i64 0), .sl 3 [eCl cl1], .v (.slice none 0 0), .v (.slice none 0 0)]
end Go.Proofs.YtgbdhakkgnmeoaaGreat.D
namespace Go.Proofs.YtgbdhakkgnmeoaaGreat.D
set_option linter.unusedVariables false
set_option linter.unusedSimpArgs false
open Go Go.Proofs.YtgbdhakkgnmeoaaGreat.D.Pm
set_option maxRecDepth 4000
abbrev zS : TI := ⟨.s, 1, 16, [.string ⟨#[]⟩]⟩
def short (s : ByteArray) : Bool := decide (s.size ≤ 100)
def fewC (x : Con) : Bool := decide (x.cols.length ≤ 12) && (decide (x.refs.length ≤ 12) && fewE 60 x.check)
def textsC (x : Con) : List ByteArray := [x.name, x.table] ++ x.cols ++ x.refs
def fewI (x : Ix) : Bool := decide (x.cols.length ≤ 12)
def textsI (x : Ix) : List ByteArray := [x.name] ++ x.cols
def lens12 (t : Tbl) : Bool := decide (t.cols.length ≤ 12) && (decide (t.cons.length ≤ 12) && decide (t.idx.length ≤ 12))
def textsT (t : Tbl) : List ByteArray := [t.name, t.owner] ++ t.cols.map (·.name) ++ t.cons.flatMap textsC ++ t.idx.flatMap textsI
def fewT (t : Tbl) : Bool := lens12 t && (t.cons.all fewC && (t.idx.all fewI && (textsT t).all short))
theorem rowS (a b : ByteArray) : [[AC.v (.string a)], [AC.v (.string b)]] = [a, b].map strC := rfl
theorem fewT_ok (t : Tbl) (h : fewT t = true) : okT t := by
  simp only [fewT, lens12, Bool.and_eq_true, decide_eq_true_eq, List.all_eq_true] at h
  obtain ⟨⟨h1, h2, h3⟩, h4, h5, h6⟩ := h
  have ht : ∀ s ∈ textsT t, okS s := fun s hs => of_decide_eq_true (h6 s hs)
  have hc : ∀ x ∈ t.cons, ∀ s ∈ textsC x, okS s := fun x hx s hs => ht s (by rw [textsT]; simp only [List.mem_append, List.mem_flatMap]; exact .inl (.inr ⟨x, hx, hs⟩))
  have hi : ∀ x ∈ t.idx, ∀ s ∈ textsI x, okS s := fun x hx s hs => ht s (by rw [textsT]; simp only [List.mem_append, List.mem_flatMap]; exact .inr ⟨x, hx, hs⟩)
  refine ⟨ht _ (by simp [textsT]), ht _ (by simp [textsT]), ⟨h1, fun c hcc => ht _ (by simp only [textsT, List.mem_append, List.mem_map]; exact .inl (.inl (.inr ⟨c, hcc, rfl⟩)))⟩, ⟨h2, fun x hx => ?_⟩, ⟨h3, fun x hx => ?_⟩⟩
  · have hf := h4 x hx
    simp only [fewC, Bool.and_eq_true, decide_eq_true_eq] at hf
    obtain ⟨f1, f2, f3⟩ := hf
    obtain ⟨m, hm⟩ := Option.isSome_iff_exists.1 f3
    obtain ⟨g1, g2, g3⟩ := cnt_ok _ _ _ hm
    exact ⟨hc x hx _ (by simp [textsC]), ⟨f1, fun s hs => hc x hx s (by simp [textsC, hs])⟩, ⟨g1, by omega⟩, hc x hx _ (by simp [textsC]), ⟨f2, fun s hs => hc x hx s (by simp [textsC, hs])⟩⟩
  · exact ⟨hi x hx _ (by simp [textsI]), of_decide_eq_true (h5 x hx), fun s hs => hi x hx s (by simp [textsI, hs])⟩
end Go.Proofs.YtgbdhakkgnmeoaaGreat.D
namespace Go.Proofs.YtgbdhakkgnmeoaaGreat.D
set_option linter.unusedVariables false
set_option linter.unusedSimpArgs false
open Go Go.Proofs.YtgbdhakkgnmeoaaGreat.D.Pm
set_option maxRecDepth 4000
def eqStr (a b : ByteArray) : Bool := decide (a = b)
theorem eqL_str : ∀ (l m : List ByteArray), eqL eqStr l m = decide (l = m)
  | [], [] => by simp [eqL]
  | a :: l, b :: m => by rw [eqL, eqL_str l m, eqStr]; simp
  | [], _ :: _ => by simp [eqL]
  | _ :: _, [] => by simp [eqL]
theorem eqL_refl {α : Type} {f : α → α → Bool} : ∀ {l : List α}, (∀ a ∈ l, f a a = true) → eqL f l l = true
  | [], _ => rfl
  | a :: l, h => by rw [eqL, h a (List.mem_cons_self ..), eqL_refl fun x hx => h x (List.mem_cons_of_mem _ hx)]; rfl
theorem eqE_refl : ∀ e : Ex, eqE e e = true := by
  refine Ex.ind fun k op v n kids ih => ?_
  rw [eqE, eqEs_eq, eqL_refl ih]; simp
theorem eqS_is (l m : List ByteArray) (hl : l.length ≤ Big) : Is Tryz.prog 16 [.c (.sl 1 (l.map strC)), .c (.sl 1 (m.map strC))] (vB (eqL eqStr l m)) := by
  have e1 : (l.map strC).length = l.length := List.length_map ..
  have e2 : (m.map strC).length = m.length := List.length_map ..
  refine Is.of TP Tryz.func16 rfl rfl (Nat.le_of_ble_eq_true rfl) fun st => Pw.of TP [] ?_
  conv => whnf
  refine ⟨fun h => ?_, fun h => ?_⟩ <;> conv => whnf
  · (refine Fin.old (congrArg vB ?_) (.refl _); rw [eqL_len (by omega)])
  · have hlm : l.length = m.length := by have := Classical.not_not.1 h; omega
    refine Pw.rng (τ := Unit) 13 l.length hl [0, 1, 12] (fun _ => []) (fun i _ => ∀ (j : Nat), j < i → ∀ (h : j < l.length) (h' : j < m.length), eqStr l[j] m[j] = true) () rfl ⟨⟩ (by intro j h; omega) fun i _ hi hx => Pw.of TP [] ?_
    conv => whnf
    refine ⟨fun h => ?_, fun h => ?_⟩ <;> conv => whnf
    · have hi' := lt_map ‹_›
      have hi2 : i < m.length := by omega
      have k1 := fun F => ixm (f := strC) (l := l) (j := i) (F := F) hi'
      have h1 := eqL_no (f := eqStr) hi' hi2
      have h2 : eqStr l[i] m[i] = true → ∀ (j : Nat), j < i + 1 → ∀ (h : j < l.length) (h' : j < m.length), eqStr l[j] m[j] = true := fun he j hj h h' => by
        by_cases hji : j = i
        · subst hji; exact he
        · exact hx j (by omega) h h'
      have k2 := fun F => ixm (f := strC) (l := m) (j := i) (F := F) hi2
      generalize l[i] = a at k1 h1 h2 ⊢
      generalize m[i] = b at h1 h2 k2
      skip
      skip
      refine Pw.drw TP mixed (by kernel_rfl) ?_; conv => whnf
      refine k1 _ ?_
      conv => whnf
      refine k2 _ ?_
      conv => whnf
      refine ⟨fun (h : ¬ a = b) => ?_, fun (h : ¬ ¬ a = b) => ?_⟩ <;> conv => whnf
      · (refine Fin.old (congrArg vB ?_) (.refl _); rw [h1 (decide_eq_false h)])
      · exact ⟨hi', rfl, ⟨rfl, rfl, rfl, trivial⟩, (), trivial, .refl _, h2 (decide_eq_true (Classical.not_not.1 h))⟩
    · obtain rfl := nlt_map ‹_› hi
      (refine Fin.old (congrArg vB ?_) (.refl _); rw [eqL_all hlm (fun i h h' => hx i h h h')])
def eqCl (c d : Cl) : Bool := decide (c.name = d.name ∧ c.typ = d.typ ∧ c.nn = d.nn)
theorem eqC_is (l m : List Cl) (hl : l.length ≤ Big) : Is Tryz.prog 15 [.c (.sl 3 (l.map eCl)), .c (.sl 3 (m.map eCl))] (vB (eqL eqCl l m)) := by
  have e1 : (l.map eCl).length = l.length := List.length_map ..
  have e2 : (m.map eCl).length = m.length := List.length_map ..
  refine Is.of TP Tryz.func15 rfl rfl (Nat.le_of_ble_eq_true rfl) fun st => Pw.of TP [] ?_
  conv => whnf
  refine ⟨fun h => ?_, fun h => ?_⟩ <;> conv => whnf
  · (refine Fin.old (congrArg vB ?_) (.refl _); rw [eqL_len (by omega)])
  · have hlm : l.length = m.length := by have := Classical.not_not.1 h; omega
    refine Pw.rng (τ := Unit) 13 l.length hl [0, 1, 12] (fun _ => []) (fun i _ => ∀ (j : Nat), j < i → ∀ (h : j < l.length) (h' : j < m.length), eqCl l[j] m[j] = true) () rfl ⟨⟩ (by intro j h; omega) fun i _ hi hx => Pw.of TP [] ?_
    conv => whnf
    refine ⟨fun h => ?_, fun h => ?_⟩ <;> conv => whnf
    · have hi' := lt_map ‹_›
      have hi2 : i < m.length := by omega
      have k1 := fun F => ixm (f := eCl) (l := l) (j := i) (F := F) hi'
      have h1 := eqL_no (f := eqCl) hi' hi2
      have h2 : eqCl l[i] m[i] = true → ∀ (j : Nat), j < i + 1 → ∀ (h : j < l.length) (h' : j < m.length), eqCl l[j] m[j] = true := fun he j hj h h' => by
        by_cases hji : j = i
        · subst hji; exact he
        · exact hx j (by omega) h h'
      have k2 := fun F => ixm (f := eCl) (l := m) (j := i) (F := F) hi2
      generalize l[i] = a at k1 h1 h2 ⊢
      generalize m[i] = b at h1 h2 k2
      obtain ⟨na, ya, qa⟩ := a
      obtain ⟨nb, yb, qb⟩ := b
      refine Pw.drw TP mixed (by kernel_rfl) ?_; conv => whnf
      refine k1 _ ?_
      conv => whnf
      refine k2 _ ?_
      conv => whnf
      refine ⟨fun (h : ¬ (na = nb ∧ ya = yb ∧ qa = qb ∧ True)) => ?_, fun (h : ¬ ¬ (na = nb ∧ ya = yb ∧ qa = qb ∧ True)) => ?_⟩ <;> conv => whnf
      · (refine Fin.old (congrArg vB ?_) (.refl _); rw [h1 (decide_eq_false fun q => h ⟨q.1, q.2.1, q.2.2, trivial⟩)])
      · exact ⟨hi', rfl, ⟨rfl, rfl, rfl, trivial⟩, (), trivial, .refl _, h2 (decide_eq_true (by have q := Classical.not_not.1 h; exact ⟨q.1, q.2.1, q.2.2.1⟩))⟩
    · obtain rfl := nlt_map ‹_› hi
      (refine Fin.old (congrArg vB ?_) (.refl _); rw [eqL_all hlm (fun i h h' => hx i h h h')])
theorem eqfCon_is (l m : List Con) (hl : l.length ≤ Big) (g : Nat) (caps : List AC) (f : Con → Con → Bool) (hf : ∀ e ∈ l, ∀ e' ∈ m, Is Tryz.prog g (.g (eCon e) :: .g (eCon e') :: caps.map .c) (vB (f e e'))) :
    Is Tryz.prog 17 [.c (.sl 12 (l.map eCon)), .c (.sl 12 (m.map eCon)), .c (.fn g caps)] (vB (eqL f l m)) := by
  have e1 : (l.map eCon).length = l.length := List.length_map ..
  have e2 : (m.map eCon).length = m.length := List.length_map ..
  refine Is.of TP Tryz.func17 rfl rfl (Nat.le_of_ble_eq_true rfl) fun st => Pw.of TP [] ?_
  conv => whnf
  repeat' (first | (refine ⟨fun h => ?_, fun h => ?_⟩ <;> conv => whnf) | fail)
  · (refine Fin.old (congrArg vB ?_) (.refl _); rw [eqL_len (by omega)])
  · have hlm : l.length = m.length := by have := Classical.not_not.1 ‹_›; omega
    refine Pw.rng (τ := Unit) 17 l.length hl [1, 2, 15, 16] (fun _ => []) (fun i _ => ∀ (j : Nat), j < i → ∀ (h : j < l.length) (h' : j < m.length), f l[j] m[j] = true) () rfl ⟨⟩ (by intro j h; omega) fun i _ hi hx => Pw.of TP [] ?_
    conv => whnf
    repeat' (first | (refine ⟨fun h => ?_, fun h => ?_⟩ <;> conv => whnf) | fail)
    · have hi' := lt_map ‹_›
      have hi2 : i < m.length := by omega
      refine ixm hi' ?_
      have hm := hf l[i] (List.getElem_mem hi') m[i] (List.getElem_mem hi2)
      have h1 := eqL_no (f := f) hi' hi2
      have h2 : f l[i] m[i] = true → ∀ (j : Nat), j < i + 1 → ∀ (h : j < l.length) (h' : j < m.length), f l[j] m[j] = true := fun he j hj h h' => by
        by_cases hji : j = i
        · subst hji; exact he
        · exact hx j (by omega) h h'
      have k2 := fun F => ixm (f := eCon) (l := m) (j := i) (F := F) hi2
      generalize l[i] = a at hm h1 h2 ⊢
      generalize m[i] = b at hm h1 h2 k2
      obtain ⟨na, ya, ca, ⟨ka, oa, va, ma, la⟩, ta, ra⟩ := a
      obtain ⟨nb, yb, cb, ⟨kb, ob, vb, mb, lb⟩, tb, rb⟩ := b
      conv => whnf
      intro id hid
      conv => whnf
      refine ⟨_, upd_same _ _ _, Nat.le_refl 12, ?_⟩
      conv => whnf
      refine k2 _ ?_
      conv => whnf
      refine ⟨_, upd_same _ _ _, ?_⟩
      conv => whnf
      refine Is.callB hm fun b hb => ?_
      cases b <;> conv => whnf
      · exact Fin.old (congrArg vB (h1 hb).symm) ((Le.upd hid).up2 hid)
      · exact ⟨hi', rfl, ⟨rfl, rfl, rfl, rfl, trivial⟩, (), trivial, (Le.upd hid).up2 hid, h2 hb⟩
    · obtain rfl := nlt_map ‹_› hi
      (refine Fin.old (congrArg vB ?_) (.refl _); rw [eqL_all hlm (fun i h h' => hx i h h h')])
end Go.Proofs.YtgbdhakkgnmeoaaGreat.D
namespace Go.Proofs.YtgbdhakkgnmeoaaGreat.D
set_option linter.unusedVariables false
set_option linter.unusedSimpArgs false
open Go Go.Proofs.YtgbdhakkgnmeoaaGreat.D.Pm
set_option maxRecDepth 4000
def eqCon (x y : Con) : Bool := decide (x.name = y.name) && (decide (x.kind = y.kind) && (decide (x.table = y.table) && (eqL eqStr x.cols y.cols && (eqL eqStr x.refs y.refs && eqE x.check y.check))))
def eqIx (x y : Ix) : Bool := decide (x.name = y.name) && eqL eqStr x.cols y.cols
def eqTb (a b : Tbl) : Bool := decide (a.name = b.name) && (decide (a.owner = b.owner) && (decide (a.version = b.version) && (eqL eqCl a.cols b.cols && (eqL eqCon a.cons b.cons && eqL eqIx a.idx b.idx))))
theorem rsameTexts_is (l m : List ByteArray) (hl : l.length ≤ Big) : Is Tryz.prog 26 [.c (eS l), .c (eS m)] (vB (eqL eqStr l m)) := by
  have e1 : (l.map strC).length = l.length := List.length_map ..
  have e2 : (m.map strC).length = m.length := List.length_map ..
  refine Is.of TP Tryz.func26 rfl rfl (Nat.le_of_ble_eq_true rfl) fun st => Pw.of TP [] ?_
  conv => whnf
  refine ⟨fun h => ?_, fun h => ?_⟩ <;> conv => whnf
  · (refine Fin.old (congrArg vB ?_) (.refl _); rw [eqL_len (by omega)])
  have hlm : l.length = m.length := by have := Classical.not_not.1 h; omega
  refine Pw.rng (τ := Unit) 5 l.length hl [0, 1] (fun _ => []) (fun i _ => ∀ (j : Nat), j < i → ∀ (h : j < l.length) (h' : j < m.length), eqStr l[j] m[j] = true) () rfl ⟨⟩ (by intro j h; omega) fun i _ hi hx => Pw.of TP [] ?_
  conv => whnf
  refine ⟨fun h => ?_, fun h => ?_⟩ <;> conv => whnf
  · have hi' := lt_map ‹_›
    have hi2 : i < m.length := by omega
    have k1 := fun F => ixm (f := strC) (F := F) hi'
    have k2 := fun F => ixm (f := strC) (F := F) hi2
    have h1 := eqL_no (f := eqStr) hi' hi2
    have h2 : eqStr l[i] m[i] = true → ∀ (j : Nat), j < i + 1 → ∀ (h : j < l.length) (h' : j < m.length), eqStr l[j] m[j] = true := fun he j hj h h' => by
      by_cases hji : j = i
      · subst hji; exact he
      · exact hx j (by omega) h h'
    generalize l[i] = a at k1 h1 h2
    generalize m[i] = b at k2 h1 h2
    refine Pw.drw TP mixed (by kernel_rfl) ?_; conv => whnf
    refine k1 _ ?_
    conv => whnf
    refine k2 _ ?_
    conv => whnf
    refine ⟨fun (h : ¬ a = b) => ?_, fun (h : ¬ ¬ a = b) => ?_⟩ <;> conv => whnf
    · (refine Fin.old (congrArg vB ?_) (.refl _); rw [h1 (decide_eq_false h)])
    · exact ⟨hi', rfl, ⟨rfl, rfl, trivial⟩, (), trivial, .refl _, h2 (decide_eq_true (Classical.not_not.1 h))⟩
  obtain rfl := nlt_map ‹_› hi
  (refine Fin.old (congrArg vB ?_) (.refl _); rw [eqL_all hlm (fun i h h' => hx i h h h')])
theorem rsameCons_is (x y : Con) (ok : okC x) : Is Tryz.prog 28 [.g (eCon x), .g (eCon y)] (vB (eqCon x y)) := by
  have h1 := rsameTexts_is x.cols y.cols (big12 ok.2.1.1)
  have h2 := rsameTexts_is x.refs y.refs (big12 ok.2.2.2.2.1)
  have h3 := rsame_is x.check ok.2.2.1.1 y.check
  have he : eqCon x y = (decide (x.name = y.name) && (decide (x.kind = y.kind) && (decide (x.table = y.table) && (eqL eqStr x.cols y.cols && (eqL eqStr x.refs y.refs && eqE x.check y.check))))) := rfl
  rw [he]
  clear he ok
  obtain ⟨nx, yx, cx, ex, tx, rx⟩ := x
  obtain ⟨ny, yy, cy, ey, ty, ry⟩ := y
  dsimp only at h1 h2 h3 ⊢
  generalize eqL eqStr cx cy = q1 at h1 ⊢
  generalize eqL eqStr rx ry = q2 at h2 ⊢
  generalize eqE ex ey = q3 at h3 ⊢
  obtain ⟨k1, o1, v1, m1, l1⟩ := ex
  obtain ⟨k2, o2, v2, m2, l2⟩ := ey
  refine Is.of TP Tryz.func28 rfl rfl (Nat.le_of_ble_eq_true rfl) fun st => Pw.of TP [] ?_
  conv => whnf
  repeat' (first | (refine ⟨fun h => ?_, fun h => ?_⟩ <;> conv => whnf) | (refine Is.callB (h1) fun b hb => ?_; cases b <;> conv => whnf) | (refine Is.callB (h2) fun b hb => ?_; cases b <;> conv => whnf) | (refine Is.callB (h3) fun b hb => ?_; cases b <;> conv => whnf) | fail)
  all_goals clear h1 h2 h3
  all_goals (refine Fin.old (congrArg vB ?_) (.refl _); first | (simp [*]; done) | (simp_all; done))
theorem eqTb_f1 {a b : Tbl} (h : a.name ≠ b.name ∨ a.owner ≠ b.owner ∨ a.version ≠ b.version ∨ eqL eqCl a.cols b.cols = false ∨ eqL eqCon a.cons b.cons = false ∨ eqL eqIx a.idx b.idx = false) : eqTb a b = false := by
  unfold eqTb
  rcases h with h | h | h | h | h | h <;> simp [h]
end Go.Proofs.YtgbdhakkgnmeoaaGreat.D
