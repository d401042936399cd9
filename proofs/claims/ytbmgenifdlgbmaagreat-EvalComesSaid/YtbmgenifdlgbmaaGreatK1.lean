/- Words and contracts: a plain machine over the model, and what the functions that a law reaches come to, each for every input that its theorem names. -/
import Derived.Test.YtbmgenifdlgbmaaGreatK0
namespace Go.Proofs.YtbmgenifdlgbmaaGreat.D
set_option linter.unusedVariables false
set_option linter.unusedSimpArgs false
open Go Go.Proofs.YtbmgenifdlgbmaaGreat.D.Pm
set_option maxRecDepth 4000
structure Val where
  k : Int
  n : Int
  s : ByteArray
inductive Ex where
  | mk (k op : Int) (v : Val) (name : ByteArray) (kids : List Ex)
def eV (v : Val) : List AC := [.v (.int .i64 v.k), .v (.int .i64 v.n), .v (.string v.s)]
mutual
def eE : Ex → List AC
  | .mk k op v name kids => [.v (.int .i64 k), .v (.int .i64 op), .v (.int .i64 v.k), .v (.int .i64 v.n), .v (.string v.s), .v (.string name), .sl 7 (eEs kids)]
def eEs : List Ex → List (List AC)
  | [] => []
  | e :: l => eE e :: eEs l
end
theorem eEs_map : ∀ l, eEs l = l.map eE
  | [] => rfl
  | e :: l => by rw [eEs, eEs_map l]; rfl
def vright (v : Val) : Bool :=
  if v.k = 0 then decide (v.n = 0 ∧ v.s = ⟨#[]⟩)
  else if v.k = 1 then decide (v.s = ⟨#[]⟩)
  else if v.k = 2 then decide (v.s = ⟨#[]⟩ ∧ (v.n = 0 ∨ v.n = 1))
  else if v.k = 3 then decide (v.n = 0 ∧ v.s.size ≤ 32) && plain v.s
  else false
theorem vright_is (v : Val) (hs : v.s.size ≤ Big) : Is Tryz.prog 40 [.g (eV v)] (vB (vright v)) := by
  refine Is.of TP Tryz.func40 rfl rfl (Nat.le_of_ble_eq_true rfl) fun st => Pw.of TP [] ?_
  conv => whnf
  repeat' (first | (refine ⟨fun h => ?_, fun h => ?_⟩ <;> conv => whnf) | (refine Is.callB (plain_is _ hs) fun b hb => ?_; cases b <;> conv => whnf) | fail)
  all_goals (refine Fin.old (congrArg vB ?_) (.refl _); first | (simp [vright, *]; done) | (simp [vright, *] <;> omega) | (simp_all [vright]; done))
def vright' (v : Val) : Bool := vright v
theorem rvright_is (v : Val) (hs : v.s.size ≤ Big) : Is Tryz.prog 54 [.g (eV v)] (vB (vright v)) := by
  refine Is.of TP Tryz.func54 rfl rfl (Nat.le_of_ble_eq_true rfl) fun st => Pw.of TP [] ?_
  conv => whnf
  repeat' (first | (refine ⟨fun h => ?_, fun h => ?_⟩ <;> conv => whnf) | (refine Is.callB (rplain_is _ hs) fun b hb => ?_; cases b <;> conv => whnf) | fail)
  all_goals (refine Fin.old (congrArg vB ?_) (.refl _); first | (simp [vright, *]; done) | (simp [vright, *] <;> omega) | (simp_all [vright]; done))
end Go.Proofs.YtbmgenifdlgbmaaGreat.D
namespace Go.Proofs.YtbmgenifdlgbmaaGreat.D
set_option linter.unusedVariables false
set_option linter.unusedSimpArgs false
open Go Go.Proofs.YtbmgenifdlgbmaaGreat.D.Pm
set_option maxRecDepth 4000
mutual
theorem Ex.ind {Q : Ex → Prop} (h : ∀ k op v n kids, (∀ e ∈ kids, Q e) → Q (.mk k op v n kids)) : ∀ e, Q e
  | .mk k op v n kids => h k op v n kids (Ex.inds h kids)
theorem Ex.inds {Q : Ex → Prop} (h : ∀ k op v n kids, (∀ e ∈ kids, Q e) → Q (.mk k op v n kids)) : ∀ l : List Ex, ∀ e ∈ l, Q e
  | [] => fun e he => by cases he
  | a :: l => fun e he => (List.mem_cons.1 he).elim (fun h1 => h1 ▸ Ex.ind h a) (fun h1 => Ex.inds h l e h1)
end
mutual
def okE : Ex → Prop
  | .mk _ _ v n kids => v.s.size < Big ∧ n.size < Big ∧ kids.length ≤ Big ∧ okEs kids
def okEs : List Ex → Prop
  | [] => True
  | e :: l => okE e ∧ okEs l
end
theorem okEs_all : ∀ {l}, okEs l → ∀ e ∈ l, okE e
  | a :: l, h, e, he => by
    rcases List.mem_cons.1 he with rfl | he
    · exact h.1
    · exact okEs_all h.2 e he
mutual
def allE (p : Ex → Bool) : Ex → Bool
  | .mk k op v n kids => p (.mk k op v n kids) && allEs p kids
def allEs (p : Ex → Bool) : List Ex → Bool
  | [] => true
  | e :: l => allE p e && allEs p l
end
theorem allEs_all {p : Ex → Bool} : ∀ l, allEs p l = l.all (allE p)
  | [] => rfl
  | e :: l => by rw [allEs, List.all_cons, allEs_all l]
mutual
def height : Ex → Nat
  | .mk _ _ _ _ kids => heights kids + 1
def heights : List Ex → Nat
  | [] => 0
  | e :: l => max (height e) (heights l)
end
theorem heights_le {m : Nat} : ∀ l, heights l ≤ m ↔ ∀ e ∈ l, height e ≤ m
  | [] => by simp [heights]
  | e :: l => by simp [heights, Nat.max_le, heights_le l]
/-- the first of which it is so -/
def idx {α : Type} (p : α → Bool) (l : List α) : Int := match l.findIdx? p with | some i => i | none => -1
theorem idx_at {α : Type} {p : α → Bool} {l : List α} {i : Nat} (h : i < l.length) (hn : ∀ x ∈ l.take i, p x = false) (hp : p l[i] = true) : idx p l = i := by
  have : l.findIdx? p = some i := by
    rw [List.findIdx?_eq_some_iff_getElem]
    refine ⟨h, hp, fun j hj => ?_⟩
    have := hn l[j] (List.mem_take_iff_getElem.2 ⟨j, by omega, rfl⟩)
    simp [this]
  rw [idx, this]
theorem idx_no {α : Type} {p : α → Bool} {l : List α} (h : ∀ x ∈ l, p x = false) : idx p l = -1 := by
  rw [idx, List.findIdx?_eq_none_iff.2 (fun x hx => by simp [h x hx])]
theorem idx_any {α : Type} {p : α → Bool} {l : List α} : decide (0 ≤ idx p l) = l.any p := by
  unfold idx
  cases h : l.findIdx? p with
  | none =>
    have h1 := List.findIdx?_eq_none_iff.1 h
    have : l.any p = false := List.any_eq_false.2 fun x hx => by simp [h1 x hx]
    rw [this]
    rfl
  | some i =>
    obtain ⟨h1, h2, _⟩ := List.findIdx?_eq_some_iff_getElem.1 h
    have : l.any p = true := List.any_eq_true.2 ⟨_, List.getElem_mem h1, h2⟩
    rw [this]
    exact decide_eq_true (Int.natCast_nonneg i)
theorem take_snoc {α : Type} {Q : α → Prop} {l : List α} {i : Nat} (h : i < l.length) (hn : ∀ x ∈ l.take i, Q x) (hp : Q l[i]) : ∀ x ∈ l.take (i + 1), Q x := fun x hx => by
  rw [List.take_add_one, List.getElem?_eq_getElem h] at hx
  rcases List.mem_append.1 hx with hx | hx
  · exact hn x hx
  · simp at hx; rw [hx]; exact hp
theorem ixE {l : List Ex} {j : Nat} {F : List AC → Prop} (h : j < l.length) (k : F (eE l[j])) : 0 ≤ (j : Int) ∧ (j : Int) < ((eEs l).length : Nat) ∧ ∃ r, (eEs l)[(j : Int).toNat]? = some r ∧ F r := by
  rw [eEs_map]; exact ixm h k
theorem ltE {l : List Ex} {j : Nat} (h : (j : Int) < ((eEs l).length : Nat)) : j < l.length := by rw [eEs_map] at h; exact lt_map h
theorem nltE {l : List Ex} {j : Nat} (h : ¬ (j : Int) < ((eEs l).length : Nat)) (hj : j ≤ l.length) : j = l.length := by rw [eEs_map] at h; exact nlt_map h hj
theorem idxE_is (l : List Ex) (hl : l.length ≤ Big) (g : Nat) (caps : List AC) (p : Ex → Bool) (hf : ∀ e ∈ l, Is Tryz.prog g (.g (eE e) :: caps.map .c) (vB (p e))) :
    Is Tryz.prog 69 [.c (.sl 7 (eEs l)), .c (.fn g caps)] (vI .i64 (idx p l)) := by
  refine Is.of TP Tryz.func69 rfl rfl (Nat.le_of_ble_eq_true rfl) fun st => Pw.of TP [] ?_
  conv => whnf
  refine Pw.rng (τ := Unit) 8 l.length hl [0, 1, 7] (fun _ => []) (fun i _ => ∀ x ∈ l.take i, p x = false) () rfl trivial (by simp) fun i _ hi hx => Pw.of TP [] ?_
  conv => whnf
  repeat' (first | (refine ⟨fun h => ?_, fun h => ?_⟩ <;> conv => whnf) | fail)
  · have hi' := ltE ‹_›
    refine ixE hi' ?_
    have hm := hf l[i] (List.getElem_mem hi')
    have hs := take_snoc (Q := fun x => p x = false) hi' hx
    have ha := idx_at hi' hx
    generalize l[i] = e at hm hs ha ⊢
    cases e
    conv => whnf
    refine Is.callB hm fun b hb => ?_
    cases b <;> conv => whnf
    · exact ⟨hi', rfl, ⟨rfl, rfl, rfl, trivial⟩, (), trivial, .refl _, hs hb⟩
    · exact Fin.old (congrArg (vI .i64) (ha hb).symm) (.refl _)
  · obtain rfl := nltE ‹_› hi
    exact Fin.old (congrArg (vI .i64) (idx_no (by simpa using hx)).symm) (.refl _)
theorem anyE_is (l : List Ex) (hl : l.length ≤ Big) (g : Nat) (caps : List AC) (p : Ex → Bool) (hf : ∀ e ∈ l, Is Tryz.prog g (.g (eE e) :: caps.map .c) (vB (p e))) :
    Is Tryz.prog 37 [.c (.sl 7 (eEs l)), .c (.fn g caps)] (vB (l.any p)) := by
  refine Is.of TP Tryz.func37 rfl rfl (Nat.le_of_ble_eq_true rfl) fun st => Pw.of TP [] ?_
  conv => whnf
  refine Is.callI (idxE_is l hl g caps p hf) fun b hb => ?_
  conv => whnf
  repeat' (first | (refine ⟨fun h => ?_, fun h => ?_⟩ <;> conv => whnf) | fail)
  · (refine Fin.old (congrArg vB ?_) (.refl _); rw [← idx_any, hb]; exact (decide_eq_true ‹_›).symm)
  · (refine Fin.old (congrArg vB ?_) (.refl _); rw [← idx_any, hb]; exact (decide_eq_false ‹_›).symm)
end Go.Proofs.YtbmgenifdlgbmaaGreat.D
namespace Go.Proofs.YtbmgenifdlgbmaaGreat.D
set_option linter.unusedVariables false
set_option linter.unusedSimpArgs false
open Go Go.Proofs.YtbmgenifdlgbmaaGreat.D.Pm
set_option maxRecDepth 4000
theorem low1_is (e : Ex) (m : Nat) (hm : m + 1 ≤ Big) (h : Is Tryz.prog 19 [.g (eE e), vI .i64 m] (vB (decide (height e ≤ m)))) :
    Is Tryz.prog 38 [.g (eE e), .c (.ep [.v (.int .i64 (m + 1 : Nat))])] (vB (!decide (height e ≤ m))) := by
  cases e
  refine Is.of TP Tryz.func38 rfl rfl (Nat.le_of_ble_eq_true rfl) fun st => Pw.of TP [] ?_
  conv => whnf
  have w1 : IntKind.i64.wrap (((m + 1 : Nat) : Int) - 1) = (m : Int) := by unfold Big at hm; rw [wrap_id] <;> omega
  rw [w1]
  refine Is.callB h fun b hb => ?_
  cases b <;> conv => whnf
  all_goals (refine Fin.old (congrArg vB ?_) (.refl _); rw [hb])
theorem low_is : ∀ e, okE e → ∀ m : Nat, m ≤ Big → Is Tryz.prog 19 [.g (eE e), vI .i64 m] (vB (decide (height e ≤ m))) := by
  refine Ex.ind fun k op v n kids ih ok m hm => ?_
  refine Is.of TP Tryz.func19 rfl rfl (Nat.le_of_ble_eq_true rfl) fun st => Pw.of TP [] ?_
  conv => whnf
  repeat' (first | (refine ⟨fun h => ?_, fun h => ?_⟩ <;> conv => whnf) | fail)
  · obtain ⟨m, rfl⟩ : ∃ d, m = d + 1 := ⟨m - 1, by omega⟩
    refine Is.callB (anyE_is kids ok.2.2.1 _ _ (fun e => !decide (height e ≤ m)) fun e he => low1_is e m hm (ih e he (okEs_all ok.2.2.2 e he) m (by omega))) fun b hb => ?_
    have hh : height (.mk k op v n kids) ≤ m + 1 ↔ ∀ e ∈ kids, height e ≤ m := by
      rw [← heights_le]; simp [height]
    cases b <;> conv => whnf
    · (refine Fin.old (congrArg vB ?_) (.refl _); symm; show decide _ = true; rw [decide_eq_true_iff, hh]; intro e he; simpa using List.any_eq_false.1 hb e he)
    · (refine Fin.old (congrArg vB ?_) (.refl _); symm; show decide _ = false; rw [decide_eq_false_iff_not, hh]; intro hc; obtain ⟨e, he, h1⟩ := List.any_eq_true.1 hb; simp at h1; have := hc e he; omega)
  · obtain rfl : m = 0 := by omega
    (refine Fin.old (congrArg vB ?_) (.refl _); simp [height])
def bare (op v n : Bool) : Ex → Bool
  | .mk _ o x nm _ => (op || decide (o = 0)) && ((v || decide (x.k = 0 ∧ x.n = 0 ∧ x.s = ⟨#[]⟩)) && (n || decide (nm = ⟨#[]⟩)))
theorem bare_is (e : Ex) (op v n : Bool) : Is Tryz.prog 39 [.g (eE e), vB op, vB v, vB n] (vB (bare op v n e)) := by
  cases e
  cases op <;> cases v <;> cases n <;> refine Is.of TP Tryz.func39 rfl rfl (Nat.le_of_ble_eq_true rfl) fun st => Pw.of TP [] ?_
  all_goals conv => whnf
  all_goals repeat' (first | (refine ⟨fun h => ?_, fun h => ?_⟩ <;> conv => whnf) | fail)
  all_goals (refine Fin.old (congrArg vB ?_) (.refl _); first | (simp [bare, *]; done) | (simp_all [bare]; done))
def coalesceS : ByteArray := ⟨#[99, 111, 97, 108, 101, 115, 99, 101]⟩
def lengthS : ByteArray := ⟨#[108, 101, 110, 103, 116, 104]⟩
def absS : ByteArray := ⟨#[97, 98, 115]⟩
def callOk (s : ByteArray) (n : Int) : Bool := if s = coalesceS then decide (1 ≤ n ∧ n ≤ 4) else if s = lengthS then decide (n = 1) else if s = absS then decide (n = 1) else false
theorem call_is (s : ByteArray) (n : Int) : Is Tryz.prog 42 [vS s, vI .i64 n] (vB (callOk s n)) := by
  refine Is.of TP Tryz.func42 rfl rfl (Nat.le_of_ble_eq_true rfl) fun st => Pw.of TP [] ?_
  conv => whnf
  repeat' (first | (refine ⟨fun h => ?_, fun h => ?_⟩ <;> conv => whnf) | fail)
  all_goals (refine Fin.old (congrArg vB ?_) (.refl _); unfold callOk; first | (rw [if_pos ‹_›]; simp [*]; done) | (rw [if_neg ‹_›, if_pos ‹_›]; simp [*]; done) | (rw [if_neg ‹_›, if_neg ‹_›, if_pos ‹_›]; simp [*]; done) | (rw [if_neg ‹_›, if_neg ‹_›, if_neg ‹_›]; done))
theorem eEs_len (l : List Ex) : (eEs l).length = l.length := by rw [eEs_map, List.length_map]
def rightE (slots : Bool) (e : Ex) : Bool :=
  match e with
  | .mk k op v nm kids =>
    if k = 1 then decide (kids.length = 0) && (bare false true false e && (vright v && (!decide (v.k = 1) || decide (0 ≤ v.n))))
    else if k = 2 then decide (kids.length = 0) && (bare false false true e && isName nm)
    else if k = 3 then decide (kids.length = 0) && (bare true false false e && (decide (1 ≤ op) && decide (op ≤ 6)))
    else if k = 4 then decide (kids.length = 1) && (bare true false false e && (decide (1 ≤ op) && decide (op ≤ 4)))
    else if k = 5 then decide (kids.length = 2) && (bare true false false e && (decide (1 ≤ op) && decide (op ≤ 14)))
    else if k = 6 then decide (2 ≤ kids.length) && (decide (kids.length ≤ 9) && bare false false false e)
    else if k = 7 then bare false false true e && callOk nm kids.length
    else if k = 8 then slots && (decide (kids.length = 0) && (bare true false false e && (decide (0 ≤ op) && decide (op < 6))))
    else false
set_option maxHeartbeats 1000000 in
theorem right_is2 (e : Ex) (ok : okE e) (slots : Bool) : Is Tryz.prog 22 [.g (eE e), vB slots] (vB (rightE slots e)) := by
  obtain ⟨k, op, v, nm, kids⟩ := e
  have el := eEs_len kids
  have b1 := fun x y z => bare_is (.mk k op v nm kids) x y z
  have b2 := vright_is v (Nat.le_of_lt ok.1)
  have b3 := isName_is nm ok.2.1
  have b4 := call_is nm ((eEs kids).length : Nat)
  clear ok
  cases slots <;> refine Is.of TP Tryz.func22 rfl rfl (Nat.le_of_ble_eq_true rfl) fun st => Pw.of TP [] ?_
  all_goals conv => whnf
  all_goals repeat' (first | (refine ⟨fun h => ?_, fun h => ?_⟩ <;> conv => whnf) | (refine Is.callB (b1 _ _ _) fun b hb => ?_; cases b <;> conv => whnf) | (refine Is.callB (b2) fun b hb => ?_; cases b <;> conv => whnf) | (refine Is.callB (b3) fun b hb => ?_; cases b <;> conv => whnf) | (refine Is.callB (b4) fun b hb => ?_; cases b <;> conv => whnf) | fail)
  all_goals clear b1 b2 b3 b4
  all_goals rw [el] at *
  all_goals (refine Fin.old (congrArg vB ?_) (.refl _); first | (simp [rightE, *]; done) | (simp_all [rightE]; done) | (simp [rightE, *] <;> omega) | ((simp only [rightE]; repeat' split) <;> first | (exfalso; omega) | (rw [hb]; symm; simp only [Bool.and_eq_true, decide_eq_true_eq, true_and, and_true]; omega)))
end Go.Proofs.YtbmgenifdlgbmaaGreat.D
namespace Go.Proofs.YtbmgenifdlgbmaaGreat.D
set_option linter.unusedVariables false
set_option linter.unusedSimpArgs false
open Go Go.Proofs.YtbmgenifdlgbmaaGreat.D.Pm
set_option maxRecDepth 4000
theorem all_take {α : Type} {p : α → Bool} {l : List α} (h : ∀ x ∈ l, p x = true) : l.all p = true := List.all_eq_true.2 h
theorem all_at {α : Type} {p : α → Bool} {l : List α} {i : Nat} (h : i < l.length) (hp : p l[i] = false) : l.all p = false := by
  rw [List.all_eq_false]; exact ⟨_, List.getElem_mem h, by simp [hp]⟩
theorem each_is (g : Nat) (caps : List AC) (p : Ex → Bool) (hf : ∀ e, okE e → Is Tryz.prog g (.g (eE e) :: caps.map .c) (vB (p e))) :
    ∀ e, okE e → Is Tryz.prog 20 [.g (eE e), .c (.fn g caps)] (vB (allE p e)) := by
  refine Ex.ind fun k op v n kids ih ok => ?_
  refine Is.of TP Tryz.func20 rfl rfl (Nat.le_of_ble_eq_true rfl) fun st => Pw.of TP [] ?_
  conv => whnf
  have h0 := hf _ ok
  have ea : allE p (.mk k op v n kids) = (p (.mk k op v n kids) && kids.all (allE p)) := by rw [allE, allEs_all]
  rw [ea]
  refine Is.callB h0 fun b hb => ?_
  cases b <;> conv => whnf
  · (refine Fin.old (congrArg vB ?_) (.refl _); rw [hb]; rfl)
  · rw [hb, Bool.true_and]
    refine Pw.rng (τ := Unit) 14 kids.length ok.2.2.1 [1, 12, 13] (fun _ => []) (fun i _ => ∀ x ∈ kids.take i, allE p x = true) () rfl ⟨⟩ (by simp) fun i _ hi hx => Pw.of TP [] ?_
    conv => whnf
    repeat' (first | (refine ⟨fun h => ?_, fun h => ?_⟩ <;> conv => whnf) | fail)
    · have hi' := ltE ‹_›
      refine ixE hi' ?_
      have hm := ih kids[i] (List.getElem_mem hi') (okEs_all ok.2.2.2 _ (List.getElem_mem hi'))
      have hs := take_snoc (Q := fun x => allE p x = true) hi' hx
      have ha := all_at (p := allE p) hi'
      generalize kids[i] = e at hm hs ha ⊢
      cases e
      conv => whnf
      refine Is.callB hm fun b hb => ?_
      cases b <;> conv => whnf
      · (refine Fin.old (congrArg vB ?_) (.refl _); rw [ha hb])
      · exact ⟨hi', rfl, ⟨rfl, rfl, rfl, trivial⟩, (), trivial, .refl _, hs hb⟩
    · obtain rfl := nltE ‹_› hi
      (refine Fin.old (congrArg vB ?_) (.refl _); symm; exact all_take (by simpa using hx))
theorem check1_is (e : Ex) (ok : okE e) (slots : Bool) : Is Tryz.prog 21 [.g (eE e), .c (.ep [.v (.bool slots)])] (vB (rightE slots e)) := by
  have h := right_is2 e ok slots
  generalize rightE slots e = r at h
  cases e
  refine Is.of TP Tryz.func21 rfl rfl (Nat.le_of_ble_eq_true rfl) fun st => Pw.of TP [] ?_
  conv => whnf
  refine Is.callB h fun b hb => ?_
  conv => whnf
  (refine Fin.old (congrArg vB ?_) (.refl _); rw [hb])
def checkE (slots : Bool) (e : Ex) : Nat := if 8 < height e then 17 else if allE (rightE slots) e = true then 0 else 2
theorem check_is (e : Ex) (ok : okE e) (slots : Bool) : Is Tryz.prog 13 [.g (eE e), vB slots] (vI .i64 (checkE slots e : Nat)) := by
  have h1 := low_is e ok 8 (by decide)
  have h2 := each_is 21 [.ep [.v (.bool slots)]] (rightE slots) (fun e ok => check1_is e ok slots) e ok
  cases e
  refine Is.of TP Tryz.func13 rfl rfl (Nat.le_of_ble_eq_true rfl) fun st => Pw.of TP [] ?_
  conv => whnf
  refine Is.callB h1 fun b hb => ?_
  cases b <;> conv => whnf
  · exact Fin.old (congrArg (vI .i64) (by rw [checkE, if_pos (by simp at hb; exact hb)]; rfl)) (.refl _)
  · refine Is.callB h2 fun b hc => ?_
    cases b <;> conv => whnf
    · exact Fin.old (congrArg (vI .i64) (by rw [checkE, if_neg (by simp at hb; omega), if_neg (by simp [hc])]; rfl)) (.refl _)
    · exact Fin.old (congrArg (vI .i64) (by rw [checkE, if_neg (by simp at hb; omega), if_pos hc]; rfl)) (.refl _)
end Go.Proofs.YtbmgenifdlgbmaaGreat.D
namespace Go.Proofs.YtbmgenifdlgbmaaGreat.D
set_option linter.unusedVariables false
set_option linter.unusedSimpArgs false
open Go Go.Proofs.YtbmgenifdlgbmaaGreat.D.Pm
set_option maxRecDepth 4000
mutual
def foldE {X : Type} (f : X → Ex → X) (x : X) : Ex → X
  | .mk k op v n kids => foldEs f (f x (.mk k op v n kids)) kids
def foldEs {X : Type} (f : X → Ex → X) (x : X) : List Ex → X
  | [] => x
  | e :: l => foldEs f (foldE f x e) l
end
theorem foldEs_eq {X : Type} (f : X → Ex → X) : ∀ l x, foldEs f x l = l.foldl (foldE f) x
  | [], x => rfl
  | e :: l, x => by rw [foldEs, foldEs_eq f l]; rfl
theorem foldl_take {X α : Type} (f : X → α → X) (x : X) {l : List α} {i : Nat} (h : i < l.length) : (l.take (i + 1)).foldl f x = f ((l.take i).foldl f x) l[i] := by
  rw [List.take_add_one, List.getElem?_eq_getElem h, List.foldl_append]; rfl
mutual
def nodes : Ex → Nat
  | .mk _ _ _ _ kids => nodesL kids + 1
def nodesL : List Ex → Nat
  | [] => 0
  | e :: l => nodes e + nodesL l
end
theorem nodesL_drop {l : List Ex} {i : Nat} (h : i < l.length) : nodesL (l.drop i) = nodes l[i] + nodesL (l.drop (i + 1)) := by
  rw [List.drop_eq_getElem_cons h, nodesL]
/-- a call for each part, that changes what it has captured; with a measure of what is left -/
theorem eachS_is {X : Type} (g : Nat) (caps : List AC) (R : Nat → X → Sto → Prop) (f : X → Ex → X) (hf : ∀ e, okE e → ∀ b x st, R (b + 1) x st → Does Tryz.prog g (.g (eE e) :: caps.map .c) st fun r s => r = vB true ∧ R b (f x e) s) :
    ∀ e, okE e → ∀ b x st, R (nodes e + b) x st → Does Tryz.prog 20 [.g (eE e), .c (.fn g caps)] st fun r s => r = vB true ∧ R b (foldE f x e) s := by
  refine Ex.ind fun k op v n kids ih ok b x st hR => ?_
  refine Does.of TP Tryz.func20 rfl rfl (Nat.le_of_ble_eq_true rfl) (Pw.of TP [] ?_)
  conv => whnf
  have h0 := hf _ ok (nodesL kids + b) x st (by rw [nodes, Nat.add_right_comm] at hR; exact hR)
  have ea : foldE f x (.mk k op v n kids) = kids.foldl (foldE f) (f x (.mk k op v n kids)) := by rw [foldE, foldEs_eq]
  rw [ea]
  generalize f x (.mk k op v n kids) = y0 at h0 ⊢
  refine h0.mono fun r s h => ?_
  obtain ⟨rfl, hR0⟩ := h
  conv => whnf
  refine Pw.rngS (τ := X × Sto) 14 kids.length ok.2.2.1 [1, 12, 13] (fun _ _ => []) (fun _ y => y.2) (fun i y => y.1 = (kids.take i).foldl (foldE f) y0 ∧ R (nodesL (kids.drop i) + b) y.1 y.2) (y0, s) rfl ⟨⟩ (.refl _) ⟨rfl, hR0⟩ fun i y hi hx => Pw.of TP [] ?_
  obtain ⟨y, s2⟩ := y
  obtain ⟨hy, hR2⟩ := hx
  simp only at hy hR2 ⊢
  conv => whnf
  repeat' (first | (refine ⟨fun h => ?_, fun h => ?_⟩ <;> conv => whnf) | fail)
  · have hi' := ltE ‹_›
    refine ixE hi' ?_
    rw [nodesL_drop hi', Nat.add_assoc] at hR2
    have hm := ih kids[i] (List.getElem_mem hi') (okEs_all ok.2.2.2 _ (List.getElem_mem hi')) _ y s2 hR2
    have hs := foldl_take (foldE f) y0 hi'
    clear hR2
    generalize kids[i] = e at hm hs ⊢
    cases e
    conv => whnf
    refine hm.mono fun r s h => ?_
    obtain ⟨rfl, hR3⟩ := h
    conv => whnf
    exact ⟨hi', rfl, ⟨rfl, rfl, rfl, trivial⟩, (foldE f y _, s), trivial, .refl _, (by rw [hs, ← hy] : _ = _), hR3⟩
  · obtain rfl := nltE ‹_› hi
    refine Fin.same rfl (.refl _) ⟨rfl, ?_⟩
    rw [List.take_length] at hy
    rw [List.drop_length, nodesL, Nat.zero_add] at hR2
    exact hy ▸ hR2
end Go.Proofs.YtbmgenifdlgbmaaGreat.D
namespace Go.Proofs.YtbmgenifdlgbmaaGreat.D
set_option linter.unusedVariables false
set_option linter.unusedSimpArgs false
open Go Go.Proofs.YtbmgenifdlgbmaaGreat.D.Pm
set_option maxRecDepth 4000
def kindE : Ex → Int
  | .mk k _ _ _ _ => k
def opE : Ex → Int
  | .mk _ o _ _ _ => o
def nameE : Ex → ByteArray
  | .mk _ _ _ n _ => n
/-- one more name, if it is one, and not there yet -/
def addName (out : List ByteArray) (e : Ex) : List ByteArray := if kindE e = 2 ∧ (out.any fun y => decide (nameE e = y)) = false then out ++ [nameE e] else out
abbrev Lim : Nat := 1000000
def RN (id : Nat) (st0 : Sto) (b : Nat) (out : List ByteArray) (st : Sto) : Prop := out.length + b ≤ Lim ∧ st0 id = none ∧ ∃ a, st id = some (.bx [a]) ∧ Grow st0 1 st a (out.map strC)
def namesE (e : Ex) : List ByteArray := foldE addName [] e
def maxPar (n : Int) (e : Ex) : Int := if kindE e = 3 then (if n < opE e then opE e else n) else n
def RP (id : Nat) (st0 : Sto) (b : Nat) (n : Int) (st : Sto) : Prop := st = upd st0 id (.bx [.v (.int .i64 n)]) ∧ st0 id = none
theorem upd_upd (st : Sto) (id : Nat) (o o' : Ob) : upd (upd st id o) id o' = upd st id o' := by
  funext i; unfold upd; split <;> rfl
def paramsE (e : Ex) : Int := foldE maxPar 0 e
end Go.Proofs.YtbmgenifdlgbmaaGreat.D
namespace Go.Proofs.YtbmgenifdlgbmaaGreat.D
set_option linter.unusedVariables false
set_option linter.unusedSimpArgs false
open Go Go.Proofs.YtbmgenifdlgbmaaGreat.D.Pm
set_option maxRecDepth 4000
def eqL {α β : Type} (f : α → β → Bool) : List α → List β → Bool
  | [], [] => true
  | a :: l, b :: m => f a b && eqL f l m
  | _, _ => false
theorem eqL_len {α β : Type} {f : α → β → Bool} : ∀ {l : List α} {m : List β}, l.length ≠ m.length → eqL f l m = false
  | [], [], h => absurd rfl h
  | a :: l, b :: m, h => by rw [eqL, eqL_len (l := l) (m := m) (by simpa using h), Bool.and_false]
  | [], _ :: _, _ => rfl
  | _ :: _, [], _ => rfl
theorem eqL_no {α β : Type} {f : α → β → Bool} : ∀ {l : List α} {m : List β} {i : Nat} (h : i < l.length) (h' : i < m.length), f l[i] m[i] = false → eqL f l m = false
  | a :: l, b :: m, 0, h, h', hf => by simp at hf; simp [eqL, hf]
  | a :: l, b :: m, i + 1, h, h', hf => by rw [eqL, eqL_no (l := l) (m := m) (i := i) (by simpa using h) (by simpa using h') (by simpa using hf), Bool.and_false]
theorem eqL_all {α β : Type} {f : α → β → Bool} : ∀ {l : List α} {m : List β}, l.length = m.length → (∀ (i : Nat) (h : i < l.length) (h' : i < m.length), f l[i] m[i] = true) → eqL f l m = true
  | [], [], _, _ => rfl
  | a :: l, b :: m, h, hf => by
    have h0 : f a b = true := hf 0 (by simp) (by simp)
    rw [eqL, h0, eqL_all (l := l) (m := m) (by simpa using h) (fun i h1 h2 => hf (i + 1) (by simpa using h1) (by simpa using h2))]; rfl
mutual
def eqE : Ex → Ex → Bool
  | .mk k op v n kids, .mk k' op' v' n' kids' => decide (k = k') && (decide (op = op') && (decide (v.k = v'.k ∧ v.n = v'.n ∧ v.s = v'.s) && (decide (n = n') && eqEs kids kids')))
def eqEs : List Ex → List Ex → Bool
  | [], [] => true
  | a :: l, b :: m => eqE a b && eqEs l m
  | [], _ :: _ => false
  | _ :: _, [] => false
end
theorem eqEs_eq : ∀ l m, eqEs l m = eqL eqE l m
  | [], [] => rfl
  | a :: l, b :: m => by rw [eqEs, eqL, eqEs_eq l m]
  | [], _ :: _ => rfl
  | _ :: _, [] => rfl
def vEq (v w : Val) : Bool := decide (v.k = w.k ∧ v.n = w.n ∧ v.s = w.s)
end Go.Proofs.YtbmgenifdlgbmaaGreat.D
namespace Go.Proofs.YtbmgenifdlgbmaaGreat.D
set_option linter.unusedVariables false
set_option linter.unusedSimpArgs false
open Go Go.Proofs.YtbmgenifdlgbmaaGreat.D.Pm
set_option maxRecDepth 4000
theorem anyTo_iff {s : ByteArray} {c : Int} : ∀ {n : Nat}, anyTo s c n = true ↔ ∃ i : Nat, i < n ∧ by_ s i = c
  | 0 => by simp [anyTo]
  | n + 1 => by
    rw [anyTo, Bool.or_eq_true, anyTo_iff, decide_eq_true_iff]
    constructor
    · rintro (⟨i, h1, h2⟩ | h)
      · exact ⟨i, by omega, h2⟩
      · exact ⟨n, by omega, h⟩
    · rintro ⟨i, h1, h2⟩
      by_cases h : i = n
      · subst h; exact .inr h2
      · exact .inl ⟨i, by omega, h2⟩
theorem smalls_at : ∀ i : Fin 26, by_ smalls (i.1 : Nat) = 97 + (i.1 : Int) := by decide
theorem digits_at : ∀ i : Fin 10, by_ digitS (i.1 : Nat) = 48 + (i.1 : Int) := by decide
theorem wordS_at : (∀ i : Fin 26, by_ wordS (i.1 : Nat) = 97 + (i.1 : Int)) ∧ (∀ i : Fin 10, by_ wordS (26 + i.1 : Nat) = 48 + (i.1 : Int)) ∧ by_ wordS (36 : Nat) = 95 := by decide
theorem memB_small (c : Int) : memB smalls c = small c := by
  rw [Bool.eq_iff_iff, memB, anyTo_iff, small, decide_eq_true_iff]
  constructor
  · rintro ⟨i, h1, h2⟩
    have h1' : i < 26 := h1
    have := smalls_at ⟨i, h1'⟩
    simp only at this
    omega
  · rintro ⟨h1, h2⟩
    refine ⟨(c - 97).toNat, ?_, ?_⟩
    · show (c - 97).toNat < 26; omega
    · have := smalls_at ⟨(c - 97).toNat, by omega⟩
      simp only at this
      omega
theorem memB_word (c : Int) : memB wordS c = wordc c := by
  rw [Bool.eq_iff_iff, memB, anyTo_iff, wordc, small, digit, Bool.or_eq_true, Bool.or_eq_true, decide_eq_true_iff, decide_eq_true_iff, decide_eq_true_iff]
  obtain ⟨w1, w2, w3⟩ := wordS_at
  constructor
  · rintro ⟨i, h1, h2⟩
    have h1' : i < 37 := h1
    by_cases ha : i < 26
    · have := w1 ⟨i, ha⟩
      simp only at this
      omega
    · by_cases hb : i < 36
      · have := w2 ⟨i - 26, by omega⟩
        simp only at this
        rw [show 26 + (i - 26) = i by omega] at this
        omega
      · obtain rfl : i = 36 := by omega
        right
        rw [← h2]; exact w3
  · intro h
    have h37 : wordS.size = 37 := by decide
    rw [h37]
    rcases h with (h | h) | h
    · have := w1 ⟨(c - 97).toNat, by omega⟩
      simp only at this
      exact ⟨(c - 97).toNat, by omega, by omega⟩
    · have := w2 ⟨(c - 48).toNat, by omega⟩
      simp only at this
      exact ⟨26 + (c - 48).toNat, by omega, by omega⟩
    · exact ⟨36, by omega, by rw [h]; exact w3⟩
theorem run_all (p : Int → Bool) (s : ByteArray) : ∀ (m k : Nat), k ≤ s.size → (run p s k m = s.size - k ↔ s.size - k ≤ m ∧ allB s k p = true) ∧ run p s k m ≤ s.size - k
  | 0, k, hk => by
    refine ⟨⟨fun h => ?_, fun h => by simp [run]; omega⟩, by simp [run]⟩
    have h1 : ¬ k < s.size := by simp [run] at h; omega
    exact ⟨by omega, allB_end h1⟩
  | m + 1, k, hk => by
    by_cases h : k < s.size
    · rw [allB_on h, run, if_pos h]
      by_cases hp : p (by_ s k) = true
      · rw [if_pos hp, hp, Bool.true_and]
        obtain ⟨ih, ih2⟩ := run_all p s m (k + 1) (by omega)
        refine ⟨⟨fun h1 => ?_, fun h1 => ?_⟩, by omega⟩
        · have := ih.1 (by omega); exact ⟨by omega, this.2⟩
        · have := ih.2 ⟨by omega, h1.2⟩; omega
      · rw [if_neg hp]
        simp only [Bool.not_eq_true] at hp
        rw [hp, Bool.false_and]
        exact ⟨⟨fun h1 => by omega, fun h1 => by cases h1.2⟩, by omega⟩
    · rw [run_no h, allB_end h]
      exact ⟨⟨fun _ => ⟨by omega, rfl⟩, fun _ => by omega⟩, by omega⟩
theorem allB_congr {s : ByteArray} {p q : Int → Bool} (h : ∀ c, p c = q c) (k : Nat) : allB s k p = allB s k q := by
  have : p = q := funext h
  rw [this]
theorem by_ext (s : ByteArray) (h : 0 < s.size) : by_ (s.extract 0 1) 0 = by_ s 0 := by
  have h1 : (s.extract 0 1).size = 1 := by rw [ByteArray.size_extract]; omega
  unfold by_
  rw [dif_pos (show (0 : Int).toNat < (s.extract 0 1).size by rw [h1]; decide), dif_pos (show (0 : Int).toNat < s.size from h)]
  congr 2
  rw [ByteArray.getElem_extract]
  rfl
theorem isName_eq (s : ByteArray) : isName s = decide (rkind s = 1) := by
  rw [Bool.eq_iff_iff, decide_eq_true_iff, isName, right, if_neg (by omega)]
  by_cases h0 : s = ⟨#[]⟩
  · rw [if_pos h0, rkind, if_pos h0]; simp
  have hs : 0 < s.size := by
    rcases Nat.eq_zero_or_pos s.size with h1 | h1
    · have e : s = ByteArray.empty := by simpa using h1
      exact absurd e h0
    · exact h1
  have e1 : (s.extract 0 1).size = 1 := by rw [ByteArray.size_extract]; omega
  have k1 : kw1 s = (decide (s.size ≤ 12) && (small (by_ s 0) && allB s 1 wordc)) := by
    rw [kw1, allB_on (by rw [e1]; decide), allB_end (by rw [e1]; decide), Bool.and_true, memB_small, allB_congr memB_word]
    rw [show ((0 : Nat) : Int) = 0 from rfl, by_ext s hs]
  rw [if_neg h0, decide_eq_true_iff, rkind, if_neg h0]
  have hk : (∃ x : Nat, x = (if kw2 s = true then 2 else if kw3 s = true then 3 else if rquoted s = true then 4 else if kw5 s = true then 5 else if rsign s = true then 6 else 0) ∧ x ≠ 1) := by
    refine ⟨_, rfl, ?_⟩
    repeat' split
    all_goals omega
  obtain ⟨x, hx, hx1⟩ := hk
  rw [← hx]
  by_cases hsm : small (by_ s 0) = true
  · have ho : one s = (1, alone s (run wordc s 0 12)) := by rw [one, if_pos hsm]
    obtain ⟨r1, r2⟩ := run_all wordc s 12 0 (Nat.zero_le _)
    have ha : allB s 0 wordc = allB s 1 wordc := by
      rw [allB_on hs, show wordc (by_ s (0 : Nat)) = true by rw [wordc, show by_ s (0 : Nat) = by_ s 0 from rfl, hsm]; rfl, Bool.true_and]
    rw [ho, k1, hsm, Bool.true_and, ← ha]
    have hal : alone s (run wordc s 0 12) = s.size ↔ run wordc s 0 12 = s.size := by
      unfold alone
      split
      · constructor
        · intro h; omega
        · intro h; omega
      · rfl
    simp only [Nat.sub_zero] at r1
    rw [hal, r1]
    constructor
    · rintro ⟨⟨h1, h2⟩, _⟩; simp [h1, h2]
    · intro h
      split at h
      · rename_i hc; simp at hc; exact ⟨⟨hc.1, hc.2⟩, rfl⟩
      · exact absurd h hx1
  · have hsm' : small (by_ s 0) = false := by simpa using hsm
    rw [k1, hsm', Bool.false_and, Bool.and_false, if_neg (by simp)]
    constructor
    · rintro ⟨_, h2⟩
      exfalso
      have h3 : (one s).1 = 1 := by omega
      revert h3
      rw [one, if_neg hsm]
      repeat' split
      all_goals simp
    · intro h; exact absurd h hx1
end Go.Proofs.YtbmgenifdlgbmaaGreat.D
namespace Go.Proofs.YtbmgenifdlgbmaaGreat.D
set_option linter.unusedVariables false
set_option linter.unusedSimpArgs false
open Go Go.Proofs.YtbmgenifdlgbmaaGreat.D.Pm
set_option maxRecDepth 4000
theorem heights_take {l : List Ex} {i : Nat} (h : i < l.length) : heights (l.take (i + 1)) = max (heights (l.take i)) (height l[i]) := by
  induction l generalizing i with
  | nil => simp at h
  | cons a l ih =>
    cases i with
    | zero => simp [heights]
    | succ i => simp only [List.take_succ_cons, heights, List.getElem_cons_succ]; rw [ih (by simpa using h), Nat.max_assoc]
mutual
theorem height_nodes : ∀ e : Ex, height e ≤ nodes e
  | .mk k op v n kids => by rw [height, nodes]; have := heights_nodes kids; omega
theorem heights_nodes : ∀ l : List Ex, heights l ≤ nodesL l
  | [] => Nat.le_refl _
  | e :: l => by rw [heights, nodesL]; have := heights_nodes l; have := height_nodes e; omega
end
theorem nodes_mem {e : Ex} : ∀ {l : List Ex}, e ∈ l → nodes e ≤ nodesL l
  | a :: l, h => by
    rw [nodesL]
    rcases List.mem_cons.1 h with rfl | h
    · omega
    · have := nodes_mem h; omega
theorem rheight_is : ∀ e, okE e → nodes e ≤ Lim → Is Tryz.prog 28 [.g (eE e)] (vI .i64 (height e : Nat)) := by
  refine Ex.ind fun k op v n kids ih ok hn => ?_
  rw [nodes] at hn
  have hh := heights_nodes kids
  unfold Lim at hn
  refine Is.of TP Tryz.func28 rfl rfl (Nat.le_of_ble_eq_true rfl) fun st => Pw.of TP [] ?_
  conv => whnf
  refine Pw.rng (τ := Nat) 4 kids.length ok.2.2.1 [1] (fun m => [(3, vI .i64 m)]) (fun i m => m = heights (kids.take i)) 0 rfl ⟨rfl, trivial⟩ rfl fun i m hi hx => Pw.of TP [] ?_
  conv => whnf
  repeat' (first | (refine ⟨fun h => ?_, fun h => ?_⟩ <;> conv => whnf) | fail)
  · have hi' := ltE ‹_›
    refine ixE hi' ?_
    have hm := ih kids[i] (List.getElem_mem hi') (okEs_all ok.2.2.2 _ (List.getElem_mem hi')) (Nat.le_trans (nodes_mem (List.getElem_mem hi')) (by unfold Lim; omega))
    have hs := heights_take hi'
    generalize kids[i] = e at hm hs ⊢
    generalize height e = he at hm hs
    cases e
    conv => whnf
    refine hm.call ?_
    conv => whnf
    repeat' (first | (refine ⟨fun h => ?_, fun h => ?_⟩ <;> conv => whnf) | fail)
    · exact ⟨hi', rfl, ⟨rfl, trivial⟩, he, ⟨rfl, trivial⟩, .refl _, by rw [hs, ← hx]; omega⟩
    · exact ⟨hi', rfl, ⟨rfl, trivial⟩, m, ⟨rfl, trivial⟩, .refl _, by rw [hs, ← hx]; omega⟩
  · obtain rfl := nltE ‹_› hi
    rw [List.take_length] at hx
    refine Fin.old (congrArg (vI .i64) ?_) (.refl _)
    rw [wrap_id (by omega) (by omega), height, hx]; rfl
def nvB (v : Val) : Bool := decide (v.k = 0 ∧ v.n = 0 ∧ v.s = ⟨#[]⟩)
theorem rightE_b1 {slots : Bool} {k op : Int} {v : Val} {nm : ByteArray} {kids : List Ex} (h : (¬ k = 1 ∧ nvB v = false) ∨ (¬ k = 2 ∧ ¬ k = 7 ∧ ¬ nm = ⟨#[]⟩)) : rightE slots (.mk k op v nm kids) = false := by
  have e1 : decide (v.k = 0 ∧ v.n = 0 ∧ v.s = ⟨#[]⟩) = nvB v := rfl
  simp only [rightE, bare, e1]
  generalize nvB v = p at h ⊢
  repeat' split
  all_goals rcases h with ⟨h1, h2⟩ | ⟨h1, h2, h3⟩ <;> first | contradiction | (simp [h2]; done) | (simp [h3]; done) | simp [*]
theorem rightE_b2 {slots : Bool} {k op : Int} {v : Val} {nm : ByteArray} {kids : List Ex} (h : (k = 1 ∨ k = 2 ∨ k = 6 ∨ k = 7) ∧ ¬ op = 0) : rightE slots (.mk k op v nm kids) = false := by
  obtain ⟨h1, h2⟩ := h
  simp only [rightE, bare]
  rcases h1 with rfl | rfl | rfl | rfl <;> simp [h2]
def ownR (slots : Bool) (k op : Int) (v : Val) (nm : ByteArray) (n : Nat) : Bool :=
  if k = 1 then decide (n = 0) && (vright v && !(decide (v.k = 1) && decide (v.n < 0)))
  else if k = 2 then decide (n = 0) && decide (rkind nm = 1)
  else if k = 3 then decide (n = 0) && (decide (1 ≤ op) && decide (op ≤ 6))
  else if k = 4 then decide (n = 1) && (decide (1 ≤ op) && decide (op ≤ 4))
  else if k = 5 then decide (n = 2) && (decide (1 ≤ op) && decide (op ≤ 14))
  else if k = 6 then decide (2 ≤ n) && decide (n ≤ 9)
  else if k = 7 then (decide (nm = coalesceS) && (decide (1 ≤ n) && decide (n ≤ 4))) || ((decide (nm = lengthS) || decide (nm = absS)) && decide (n = 1))
  else if k = 8 then slots && (decide (n = 0) && (decide (0 ≤ op) && decide (op ≤ 5)))
  else false
theorem rightE_own {slots : Bool} {k op : Int} {v : Val} {nm : ByteArray} {kids : List Ex} (h1 : ¬ ((¬ k = 1 ∧ nvB v = false) ∨ (¬ k = 2 ∧ ¬ k = 7 ∧ ¬ nm = ⟨#[]⟩))) (h2 : ¬ ((k = 1 ∨ k = 2 ∨ k = 6 ∨ k = 7) ∧ ¬ op = 0)) :
    rightE slots (.mk k op v nm kids) = ownR slots k op v nm kids.length := by
  have e1 : decide (v.k = 0 ∧ v.n = 0 ∧ v.s = ⟨#[]⟩) = nvB v := rfl
  simp only [rightE, bare, e1, ownR, isName_eq]
  generalize nvB v = p at h1 ⊢
  have a1 : ¬ k = 1 → p = true := fun h => by
    cases p with
    | true => rfl
    | false => exact absurd (.inl ⟨h, rfl⟩) h1
  have a2 : ¬ k = 2 → ¬ k = 7 → nm = ⟨#[]⟩ := fun h h' => Classical.byContradiction fun h'' => h1 (.inr ⟨h, h', h''⟩)
  have a3 : (k = 1 ∨ k = 2 ∨ k = 6 ∨ k = 7) → op = 0 := fun h => Classical.byContradiction fun h' => h2 ⟨h, h'⟩
  clear h1 h2
  by_cases k1 : k = 1
  · have b1 := a2 (by omega) (by omega)
    have b2 := a3 (.inl k1)
    simp only [k1, b1, b2, if_pos]
    have e9 : decide (0 ≤ v.n) = !decide (v.n < 0) := by by_cases h : v.n < 0 <;> simp [h] <;> omega
    simp [e9]
  have hp := a1 k1
  by_cases k2 : k = 2
  · have b2 := a3 (.inr (.inl k2))
    subst k2
    simp [hp, b2]
  by_cases k3 : k = 3
  · have b1 := a2 (by omega) (by omega)
    subst k3; simp [hp, b1]
  by_cases k4 : k = 4
  · have b1 := a2 (by omega) (by omega)
    subst k4; simp [hp, b1]
  by_cases k5 : k = 5
  · have b1 := a2 (by omega) (by omega)
    subst k5; simp [hp, b1]
  by_cases k6 : k = 6
  · have b1 := a2 (by omega) (by omega)
    have b2 := a3 (.inr (.inr (.inl k6)))
    subst k6; simp [hp, b1, b2]
  by_cases k7 : k = 7
  · have b2 := a3 (.inr (.inr (.inr k7)))
    subst k7
    have c1 : decide ((1 : Int) ≤ (kids.length : Nat)) = decide (1 ≤ kids.length) := by rw [Bool.eq_iff_iff]; simp; omega
    have c2 : decide (((kids.length : Nat) : Int) ≤ 4) = decide (kids.length ≤ 4) := by rw [Bool.eq_iff_iff]; simp; omega
    have c3 : decide (((kids.length : Nat) : Int) = 1) = decide (kids.length = 1) := by rw [Bool.eq_iff_iff]; simp; omega
    simp [hp, b2, callOk, c1, c2, c3]
    by_cases h1 : nm = coalesceS
    · subst h1
      simp [show ¬ coalesceS = lengthS by decide, show ¬ coalesceS = absS by decide]
    · by_cases h2 : nm = lengthS
      · simp [h1, h2, show ¬ lengthS = coalesceS by decide]
      · simp [h1, h2]
  by_cases k8 : k = 8
  · have b1 := a2 (by omega) (by omega)
    subst k8; have e9 : decide (op < 6) = decide (op ≤ 5) := by rw [Bool.eq_iff_iff]; simp; omega
    simp [hp, b1, e9]
  simp [k1, k2, k3, k4, k5, k6, k7, k8]
theorem rright_is : ∀ e, okE e → ∀ slots, Is Tryz.prog 29 [.g (eE e), vB slots] (vB (allE (rightE slots) e)) := by
  refine Ex.ind fun k op v nm kids ih ok slots => ?_
  have b2 := rvright_is v (Nat.le_of_lt ok.1)
  have b3 := risName_is nm (Nat.le_of_lt ok.2.1)
  have el := eEs_len kids
  rw [allE, allEs_all]
  refine Is.of TP Tryz.func29 rfl rfl (Nat.le_of_ble_eq_true rfl) fun st => Pw.of TP [8] ?_
  conv => whnf
  refine Pw.rng (τ := Unit) 5 kids.length ok.2.2.1 [1, 2] (fun _ => []) (fun i _ => ∀ x ∈ kids.take i, allE (rightE slots) x = true) () rfl ⟨⟩ (by simp) fun i _ hi hx => Pw.of TP [8] ?_
  conv => whnf
  repeat' (first | (refine ⟨fun h => ?_, fun h => ?_⟩ <;> conv => whnf) | fail)
  · have hi' := ltE ‹_›
    refine ixE hi' ?_
    have hm := ih kids[i] (List.getElem_mem hi') (okEs_all ok.2.2.2 _ (List.getElem_mem hi')) slots
    have hs := take_snoc (Q := fun x => allE (rightE slots) x = true) hi' hx
    have ha := all_at (p := allE (rightE slots)) hi'
    generalize kids[i] = e at hm hs ha ⊢
    cases e
    conv => whnf
    refine Is.callB hm fun b hb => ?_
    cases b <;> conv => whnf
    · (refine Fin.old (congrArg vB ?_) (.refl _); rw [ha hb, Bool.and_false])
    · exact ⟨hi', rfl, ⟨rfl, rfl, trivial⟩, (), trivial, .refl _, hs hb⟩
  obtain rfl := nltE ‹_› hi
  rw [all_take (by simpa using hx), Bool.and_true]
  clear ih ok hx
  conv => whnf
  intro id hid
  conv => whnf
  refine Pw.cut (τ := Unit) [1, 2, 6] (fun _ => []) (fun _ => st) (fun _ => ¬ ((¬ k = 1 ∧ nvB v = false) ∨ (¬ k = 2 ∧ ¬ k = 7 ∧ ¬ nm = ⟨#[]⟩))) (Pw.of TP [] ?_) fun _ h1 => ?_
  · have f0 : (¬ k = 1 ∧ nvB v = false) ∨ (¬ k = 2 ∧ ¬ k = 7 ∧ ¬ nm = ⟨#[]⟩) → vB false = vB (rightE slots (.mk k op v nm kids)) := fun h => by rw [rightE_b1 h]
    have n1 : ¬ (v.k = 0 ∧ v.n = 0 ∧ v.s = ⟨#[]⟩ ∧ True) → nvB v = false := fun h => decide_eq_false (fun h' => h ⟨h'.1, h'.2.1, h'.2.2, trivial⟩)
    have n2 : (v.k = 0 ∧ v.n = 0 ∧ v.s = ⟨#[]⟩ ∧ True) → nvB v = true := fun h => decide_eq_true ⟨h.1, h.2.1, h.2.2.1⟩
    have hle := Le.upd (o := .bx (List.map AC.v [.int .i64 0, .int .i64 0, .string ⟨#[]⟩])) hid
    conv => whnf
    repeat' (first | (refine ⟨fun h => ?_, fun h => ?_⟩ <;> conv => whnf) | (refine ⟨_, upd_same _ _ _, ?_⟩; conv => whnf) | fail)
    all_goals first
      | exact Fin.old (f0 (.inl ⟨‹_›, n1 ‹_›⟩)) hle
      | exact Fin.old (f0 (.inr ⟨‹_›, ‹_›, ‹_›⟩)) hle
      | exact ⟨⟨rfl, rfl, rfl, trivial⟩, (), trivial, hle, by rintro (⟨x1, x2⟩ | ⟨x1, x2, x3⟩) <;> first | contradiction | (rw [n2 (Classical.not_not.1 ‹_›)] at x2; cases x2)⟩
  refine Pw.cut (τ := Unit) [1, 2, 6] (fun _ => []) (fun _ => st) (fun _ => ¬ ((k = 1 ∨ k = 2 ∨ k = 6 ∨ k = 7) ∧ ¬ op = 0)) (Pw.of TP [] ?_) fun _ h2 => Pw.of TP [] ?_
  · have f0 : (k = 1 ∨ k = 2 ∨ k = 6 ∨ k = 7) → ¬ op = 0 → vB false = vB (rightE slots (.mk k op v nm kids)) := fun h h' => by rw [rightE_b2 ⟨h, h'⟩]
    conv => whnf
    repeat' (first | (refine ⟨fun h => ?_, fun h => ?_⟩ <;> conv => whnf) | fail)
    all_goals first
      | exact Fin.old (f0 (by omega) ‹_›) (.refl _)
      | exact ⟨⟨rfl, rfl, rfl, trivial⟩, (), trivial, .refl _, by omega⟩
  rw [rightE_own h1 h2]
  clear h1 h2
  cases slots <;> conv => whnf
  all_goals repeat' (first | (refine ⟨fun h => ?_, fun h => ?_⟩ <;> conv => whnf) | (refine Is.callB (b2) fun b hb => ?_; cases b <;> conv => whnf) | (refine Is.callB (b3) fun b hb => ?_; cases b <;> conv => whnf) | fail)
  all_goals clear b2 b3
  all_goals rw [el] at *
  all_goals clear el hi
  all_goals generalize kids.length = n at *
  all_goals (refine Fin.old (congrArg vB ?_) (.refl _); first | (simp [ownR, *]; done) | (simp_all [ownR]; done) | (simp [ownR, *] <;> omega) | (simp_all [ownR] <;> omega) | (simp_all [ownR, coalesceS, lengthS, absS]; done) | (simp_all [ownR, coalesceS, lengthS, absS] <;> omega) | (have l1 : 1 ≤ n := by omega; have l2 : n ≤ 4 := by omega; simp_all [ownR, coalesceS, lengthS, absS]; done) | trace_state)
end Go.Proofs.YtbmgenifdlgbmaaGreat.D
namespace Go.Proofs.YtbmgenifdlgbmaaGreat.D
set_option linter.unusedVariables false
set_option linter.unusedSimpArgs false
open Go Go.Proofs.YtbmgenifdlgbmaaGreat.D.Pm
set_option maxRecDepth 4000
theorem rcheck_is (e : Ex) (ok : okE e) (hn : nodes e ≤ Lim) (slots : Bool) : Is Tryz.prog 15 [.g (eE e), vB slots] (vI .i64 (checkE slots e : Nat)) := by
  have h1 := rheight_is e ok hn
  have h2 := rright_is e ok slots
  have h3 : checkE slots e = if 8 < height e then 17 else if allE (rightE slots) e = true then 0 else 2 := rfl
  rw [h3]
  generalize allE (rightE slots) e = r at h2
  generalize height e = m at h1
  cases e
  refine Is.of TP Tryz.func15 rfl rfl (Nat.le_of_ble_eq_true rfl) fun st => Pw.of TP [] ?_
  conv => whnf
  refine h1.call ?_
  conv => whnf
  repeat' (first | (refine ⟨fun h => ?_, fun h => ?_⟩ <;> conv => whnf) | fail)
  · exact Fin.old (congrArg (vI .i64) (by rw [if_pos (by omega)]; rfl)) (.refl _)
  · refine Is.callB h2 fun b hc => ?_
    cases b <;> conv => whnf
    · exact Fin.old (congrArg (vI .i64) (by rw [if_neg (by omega), if_neg (by simp [hc])]; rfl)) (.refl _)
    · exact Fin.old (congrArg (vI .i64) (by rw [if_neg (by omega), if_pos hc]; rfl)) (.refl _)
/-! ### few parts -/
mutual
def cnt : Ex → Int → Option Int
  | .mk _ _ v nm kids, n => if n ≤ 0 then none else if 12 < kids.length then none else if 100 < nm.size then none else if 100 < v.s.size then none else cnts kids (n - 1)
def cnts : List Ex → Int → Option Int
  | [], n => some n
  | e :: l, n => match cnt e n with
    | some m => cnts l m
    | none => none
end
mutual
theorem cnt_ok : ∀ (e : Ex) (n m : Int), cnt e n = some m → okE e ∧ (nodes e : Int) + m = n ∧ 0 ≤ m
  | .mk k op v nm kids, n, m, h => by
    rw [cnt] at h
    split at h
    · cases h
    split at h
    · cases h
    split at h
    · cases h
    split at h
    · cases h
    obtain ⟨h1, h2, h3⟩ := cnts_ok kids (n - 1) m h (by omega)
    refine ⟨⟨by unfold Big; omega, by unfold Big; omega, by unfold Big; omega, h1⟩, ?_, h3⟩
    rw [nodes]; omega
theorem cnts_ok : ∀ (l : List Ex) (n m : Int), cnts l n = some m → 0 ≤ n → okEs l ∧ (nodesL l : Int) + m = n ∧ 0 ≤ m
  | [], n, m, h, h0 => by cases h; exact ⟨trivial, by simp [nodesL], h0⟩
  | e :: l, n, m, h, h0 => by
    rw [cnts] at h
    split at h
    · rename_i x hx
      obtain ⟨h1, h2, h3⟩ := cnt_ok e n x hx
      obtain ⟨h4, h5, h6⟩ := cnts_ok l x m h h3
      refine ⟨⟨h1, h4⟩, ?_, h6⟩
      rw [nodesL]; omega
    · cases h
end
theorem cnts_take {l : List Ex} {i : Nat} {n m : Int} (h : i < l.length) (hc : cnts (l.take i) n = some m) : cnts (l.take (i + 1)) n = cnt l[i] m := by
  induction l generalizing i n with
  | nil => simp at h
  | cons a l ih =>
    cases i with
    | zero =>
      simp only [List.take_zero, cnts] at hc
      cases hc
      simp only [List.take_succ_cons, List.take_zero, cnts, List.getElem_cons_zero]
      cases cnt a m <;> rfl
    | succ i =>
      simp only [List.take_succ_cons, cnts, List.getElem_cons_succ] at hc ⊢
      cases ha : cnt a n with
      | none => rw [ha] at hc; cases hc
      | some x => rw [ha] at hc; exact ih (by simpa using h) hc
theorem cnts_none {l : List Ex} {i : Nat} {n : Int} (hc : cnts (l.take i) n = none) : cnts l n = none := by
  induction l generalizing i n with
  | nil => simpa using hc
  | cons a l ih =>
    cases i with
    | zero => simp [cnts] at hc
    | succ i =>
      simp only [List.take_succ_cons, cnts] at hc ⊢
      cases ha : cnt a n with
      | none => rfl
      | some x => rw [ha] at hc; exact ih hc
def cntR : Option Int → AV
  | some m => .t [vI .i64 m, vB true]
  | none => .t [vI .i64 0, vB false]
theorem count_is : ∀ e, ∀ n : Int, n ≤ 1000 → Is Tryz.prog 11 [.g (eE e), vI .i64 n] (cntR (cnt e n)) := by
  refine Ex.ind fun k op v nm kids ih n hn => ?_
  have el := eEs_len kids
  refine Is.of TP Tryz.func11 rfl rfl (Nat.le_of_ble_eq_true rfl) fun st => Pw.of TP [] ?_
  conv => whnf
  repeat' (first | (refine ⟨fun h => ?_, fun h => ?_⟩ <;> conv => whnf) | fail)
  · exact Fin.old (by rw [cnt, if_pos ‹_›]; rfl) (.refl _)
  · exact Fin.old (by rw [cnt, if_neg ‹_›, if_pos (by omega)]; rfl) (.refl _)
  · exact Fin.old (by rw [cnt, if_neg ‹_›, if_neg (by omega), if_pos (by omega)]; rfl) (.refl _)
  · exact Fin.old (by rw [cnt, if_neg ‹_›, if_neg (by omega), if_neg (by omega), if_pos (by omega)]; rfl) (.refl _)
  · have e0 : cnt (.mk k op v nm kids) n = cnts kids (n - 1) := by rw [cnt, if_neg ‹_›, if_neg (by omega), if_neg (by omega), if_neg (by omega)]
    rw [e0]
    have hk : kids.length ≤ Big := by unfold Big; omega
    have w1 : IntKind.i64.wrap (n - 1) = n - 1 := wrap_id (by omega) (by omega)
    refine Pw.rng (τ := Int) 6 kids.length hk [2] (fun m => [(1, vI .i64 m)]) (fun i m => cnts (kids.take i) (n - 1) = some m ∧ m ≤ 1000) (n - 1) rfl ⟨congrArg (fun n => some (vI .i64 n)) w1, trivial⟩ ⟨rfl, by omega⟩ fun i m hi hx => Pw.of TP [] ?_
    obtain ⟨hx, hm2⟩ := hx
    conv => whnf
    repeat' (first | (refine ⟨fun h => ?_, fun h => ?_⟩ <;> conv => whnf) | fail)
    · have hi' := ltE ‹_›
      refine ixE hi' ?_
      have hm := ih kids[i] (List.getElem_mem hi') m hm2
      have hs := cnts_take hi' hx
      generalize kids[i] = e at hm hs ⊢
      have hc := cnt_ok e m
      generalize cnt e m = r at hm hs hc
      cases e
      conv => whnf
      refine hm.call ?_
      cases r <;> conv => whnf
      · exact Fin.old (by rw [cnts_none hs]; rfl) (.refl _)
      · exact ⟨hi', rfl, ⟨rfl, trivial⟩, _, ⟨rfl, trivial⟩, .refl _, hs, by have := hc _ rfl; omega⟩
    · obtain rfl := nltE ‹_› hi
      rw [List.take_length] at hx
      exact Fin.old (by rw [hx]; rfl) (.refl _)
def fewE (n : Int) (e : Ex) : Bool := (cnt e n).isSome
theorem few_is (e : Ex) (n : Int) (hn : n ≤ 1000) : Is Tryz.prog 5 [.g (eE e), vI .i64 n] (vB (fewE n e)) := by
  have h := count_is e n hn
  have hf : fewE n e = (cnt e n).isSome := rfl
  rw [hf]
  generalize cnt e n = r at h
  cases e
  refine Is.of TP Tryz.func5 rfl rfl (Nat.le_of_ble_eq_true rfl) fun st => Pw.of TP [] ?_
  conv => whnf
  refine h.call ?_
  cases r <;> conv => whnf
  all_goals (refine Fin.old (congrArg vB ?_) (.refl _); rfl)
end Go.Proofs.YtbmgenifdlgbmaaGreat.D
namespace Go.Proofs.YtbmgenifdlgbmaaGreat.D
set_option linter.unusedVariables false
set_option linter.unusedSimpArgs false
open Go Go.Proofs.YtbmgenifdlgbmaaGreat.D.Pm
set_option maxRecDepth 4000
mutual
def parts : Ex → List Ex
  | .mk k op v nm kids => .mk k op v nm kids :: partsL kids
def partsL : List Ex → List Ex
  | [] => []
  | e :: l => parts e ++ partsL l
end
theorem partsL_take {l : List Ex} {i : Nat} (h : i < l.length) : partsL (l.take (i + 1)) = partsL (l.take i) ++ parts l[i] := by
  induction l generalizing i with
  | nil => simp at h
  | cons a l ih =>
    cases i with
    | zero => simp [partsL]
    | succ i => simp only [List.take_succ_cons, partsL, List.getElem_cons_succ]; rw [ih (by simpa using h), List.append_assoc]
mutual
theorem parts_len : ∀ e : Ex, (parts e).length = nodes e
  | .mk k op v nm kids => by rw [parts, nodes, List.length_cons, partsL_len kids]
theorem partsL_len : ∀ l : List Ex, (partsL l).length = nodesL l
  | [] => rfl
  | e :: l => by rw [partsL, nodesL, List.length_append, parts_len e, partsL_len l]
end
theorem nodesL_take {l : List Ex} {i : Nat} : nodesL (l.take i) ≤ nodesL l := by
  induction l generalizing i with
  | nil => simp
  | cons a l ih =>
    cases i with
    | zero => simp [nodesL]
    | succ i => simp only [List.take_succ_cons, nodesL]; have := ih (i := i); omega
mutual
theorem fold_parts {X : Type} (f : X → Ex → X) : ∀ (e : Ex) (x : X), foldE f x e = (parts e).foldl f x
  | .mk k op v nm kids, x => by rw [foldE, parts, List.foldl_cons, foldL_parts f kids]
theorem foldL_parts {X : Type} (f : X → Ex → X) : ∀ (l : List Ex) (x : X), foldEs f x l = (partsL l).foldl f x
  | [], x => rfl
  | e :: l, x => by rw [foldEs, partsL, List.foldl_append, fold_parts f e, foldL_parts f l]
end
theorem eEs_app (l m : List Ex) : eEs (l ++ m) = eEs l ++ eEs m := by rw [eEs_map, eEs_map, eEs_map, List.map_append]
theorem eEs_row (l : List Ex) : ∀ r ∈ eEs l, r.length = 7 := fun r hr => by
  rw [eEs_map] at hr
  obtain ⟨e, _, rfl⟩ := List.mem_map.1 hr
  cases e
  rfl
end Go.Proofs.YtbmgenifdlgbmaaGreat.D
namespace Go.Proofs.YtbmgenifdlgbmaaGreat.D
set_option linter.unusedVariables false
set_option linter.unusedSimpArgs false
open Go Go.Proofs.YtbmgenifdlgbmaaGreat.D.Pm
set_option maxRecDepth 4000
theorem any_take {α : Type} {p : α → Bool} {l : List α} {i : Nat} (h : i < l.length) : (l.take (i + 1)).any p = ((l.take i).any p || p l[i]) := by
  rw [List.take_add_one, List.getElem?_eq_getElem h, List.any_append]; simp
end Go.Proofs.YtbmgenifdlgbmaaGreat.D
