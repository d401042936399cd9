/- Words and contracts: a plain machine over the model, and what the functions that a law reaches come to, each for every input that its theorem names. -/
import Derived.Test.YtbmgenifdlgbmaaGreatK1
import Derived.Test.YtbmgenifdlgbmaaGreatK0
import Derived.Test.YtbmgenifdlgbmaaGreatV2
namespace Go.Proofs.YtbmgenifdlgbmaaGreat.D
set_option linter.unusedVariables false
set_option linter.unusedSimpArgs false
open Go Go.Proofs.YtbmgenifdlgbmaaGreat.D.Pm
set_option maxRecDepth 4000
structure Cl where
  name : ByteArray
  typ : Int
  nn : Bool
structure Con where
  name : ByteArray
  kind : Int
  cols : List ByteArray
  check : Ex
  table : ByteArray
  refs : List ByteArray
structure Ix where
  name : ByteArray
  cols : List ByteArray
structure Tbl where
  name : ByteArray
  owner : ByteArray
  version : Int
  cols : List Cl
  cons : List Con
  idx : List Ix
def eCl (c : Cl) : List AC := [.v (.string c.name), .v (.int .i64 c.typ), .v (.bool c.nn)]
def eCon (x : Con) : List AC := .v (.string x.name) :: .v (.int .i64 x.kind) :: eS x.cols :: (eE x.check ++ [.v (.string x.table), eS x.refs])
def eIx (x : Ix) : List AC := [.v (.string x.name), eS x.cols]
def eT (t : Tbl) : List AC := [.v (.string t.name), .v (.string t.owner), .v (.int .i64 t.version), .sl 3 (t.cols.map eCl), .sl 12 (t.cons.map eCon), .sl 2 (t.idx.map eIx)]
def okS (s : ByteArray) : Prop := s.size ≤ 100
def okSs (l : List ByteArray) : Prop := l.length ≤ 12 ∧ ∀ s ∈ l, okS s
def okC (x : Con) : Prop := okS x.name ∧ okSs x.cols ∧ (okE x.check ∧ nodes x.check ≤ 60) ∧ okS x.table ∧ okSs x.refs
def okI (x : Ix) : Prop := okS x.name ∧ okSs x.cols
def okT (t : Tbl) : Prop := okS t.name ∧ okS t.owner ∧ (t.cols.length ≤ 12 ∧ ∀ c ∈ t.cols, okS c.name) ∧ (t.cons.length ≤ 12 ∧ ∀ x ∈ t.cons, okC x) ∧ (t.idx.length ≤ 12 ∧ ∀ x ∈ t.idx, okI x)
theorem okS.lt {s : ByteArray} (h : okS s) : s.size < Big := by unfold okS at h; unfold Big; omega
theorem big12 {n : Nat} (h : n ≤ 12) : n ≤ Big := by unfold Big; omega
theorem all_take2 {α : Type} {p : α → Bool} {l : List α} {i : Nat} (h : i < l.length) : (l.take (i + 1)).all p = ((l.take i).all p && p l[i]) := by
  rw [List.take_add_one, List.getElem?_eq_getElem h, List.all_append]; simp
theorem map_take2 {α β : Type} {f : α → β} {l : List α} {i : Nat} (h : i < l.length) : (l.take (i + 1)).map f = (l.take i).map f ++ [f l[i]] := by
  rw [List.take_add_one, List.getElem?_eq_getElem h, List.map_append]; rfl
theorem flat_take2 {α β : Type} {f : α → List β} {l : List α} {i : Nat} (h : i < l.length) : (l.take (i + 1)).flatMap f = (l.take i).flatMap f ++ f l[i] := by
  rw [List.take_add_one, List.getElem?_eq_getElem h, List.flatMap_append]; simp
theorem strC_row (l : List ByteArray) : ∀ r ∈ l.map strC, r.length = 1 := fun r hr => by obtain ⟨x, _, rfl⟩ := List.mem_map.1 hr; rfl
def keyed (n : Nat) : Bool := decide (1 ≤ n) && decide (n ≤ 3)
end Go.Proofs.YtbmgenifdlgbmaaGreat.D
namespace Go.Proofs.YtbmgenifdlgbmaaGreat.D
set_option linter.unusedVariables false
set_option linter.unusedSimpArgs false
open Go Go.Proofs.YtbmgenifdlgbmaaGreat.D.Pm
set_option maxRecDepth 4000
def namesT (t : Tbl) : List ByteArray := t.cons.map (·.name) ++ t.idx.map (·.name)
def namedT (t : Tbl) : Bool := isName t.name && (isName t.owner && (t.cols.all (fun c => isName c.name) && (t.cons.all (fun c => isName c.name) && t.idx.all (fun c => isName c.name))))
end Go.Proofs.YtbmgenifdlgbmaaGreat.D
namespace Go.Proofs.YtbmgenifdlgbmaaGreat.D
set_option linter.unusedVariables false
set_option linter.unusedSimpArgs false
open Go Go.Proofs.YtbmgenifdlgbmaaGreat.D.Pm
set_option maxRecDepth 4000
def in64 (x : Int) : Prop := -9223372036854775808 ≤ x ∧ x ≤ 9223372036854775807
/-- a number, if it can be, or the error -/
def res (x : Int) : Int × Int := if -9223372036854775808 ≤ x ∧ x ≤ 9223372036854775807 then (x, 0) else (0, 10)
theorem res_in {x : Int} (h : in64 x) : res x = (x, 0) := if_pos h
theorem res_out {x : Int} (h : ¬ in64 x) : res x = (0, 10) := if_neg h
theorem wid {x : Int} (h : in64 x) : IntKind.i64.wrap x = x := wrap_id h.1 h.2
def nsize (a : Int) : Int × Int := if a < 0 then res (-a) else (a, 0)
def nover (a b : Int) : Int × Int := if b = 0 then (0, 10) else res (Int.tdiv a b)
def nrest (a b : Int) : Int × Int := if b = 0 then (0, 10) else if a = -9223372036854775808 ∧ b = -1 then (0, 10) else (Int.tmod a b, 0)
def nfR (p : Int × Int) : AV := .t [vI .i64 p.1, vI .i64 p.2]
theorem tdiv_in {a b : Int} (ha : in64 a) (hb : b ≠ 0) (h : ¬ (a = -9223372036854775808 ∧ b = -1)) : in64 (Int.tdiv a b) := by
  unfold in64 at ha ⊢
  have h1 : (Int.tdiv a b).natAbs = a.natAbs / b.natAbs := Int.natAbs_tdiv a b
  have h2 : a.natAbs / b.natAbs ≤ a.natAbs := Nat.div_le_self _ _
  by_cases hb1 : b.natAbs = 1
  · rcases Int.natAbs_eq b with e | e
    · have : b = 1 := by omega
      subst this
      simp
      omega
    · have : b = -1 := by omega
      subst this
      simp
      omega
  · have h3 : a.natAbs / b.natAbs ≤ a.natAbs / 2 := Nat.div_le_div_left (by omega) (by omega)
    omega
theorem mul_bound {x y M : Int} (hy : 0 < y) : x > M / y ↔ x * y > M := by
  constructor
  · intro h
    rcases (show M < x * y ∨ x * y ≤ M by omega) with h1 | h1
    · exact h1
    · have := (Int.le_ediv_iff_mul_le hy).2 h1
      omega
  · intro h
    rcases (show M / y < x ∨ x ≤ M / y by omega) with h1 | h1
    · exact h1
    · have := (Int.le_ediv_iff_mul_le hy).1 h1
      omega
theorem div_in1 {M y : Int} (h0 : 0 ≤ M) (hy : 1 ≤ y) : 0 ≤ M / y ∧ M / y ≤ M := ⟨Int.ediv_nonneg h0 (by omega), Int.ediv_le_self y h0⟩
theorem times_pp {a b : Int} (ha : 0 < a) (hb : 0 < b) (h2 : a ≤ 9223372036854775807) : (a > IntKind.i64.wrap (Int.tdiv 9223372036854775807 b)) ↔ ¬ in64 (a * b) := by
  have h1 := div_in1 (M := 9223372036854775807) (y := b) (by omega) (by omega)
  rw [Int.tdiv_eq_ediv_of_nonneg (by omega), wrap_id (by omega) (by omega), mul_bound hb]
  have h3 : 0 < a * b := Int.mul_pos ha hb
  unfold in64
  omega
theorem times_nn {a b : Int} (ha : a < 0) (hb : b < 0) : (a < IntKind.i64.wrap (Int.tdiv 9223372036854775807 b)) ↔ ¬ in64 (a * b) := by
  have e : (9223372036854775807 : Int) / b = -((9223372036854775807 : Int) / (-b)) := by
    have := Int.ediv_neg (9223372036854775807 : Int) (-b)
    rw [Int.neg_neg] at this
    exact this
  have h1 := div_in1 (M := 9223372036854775807) (y := -b) (by omega) (by omega)
  rw [Int.tdiv_eq_ediv_of_nonneg (by omega), e, wrap_id (by omega) (by omega)]
  have h2 := mul_bound (x := -a) (y := -b) (M := 9223372036854775807) (by omega)
  rw [Int.neg_mul_neg] at h2
  have h3 : 0 < a * b := Int.mul_pos_of_neg_of_neg ha hb
  unfold in64
  constructor
  · intro h
    have := h2.1 (by omega)
    omega
  · intro h
    have := h2.2 (by omega)
    omega
theorem times_pn {a b : Int} (ha : 0 < a) (hb : b < 0) : (b < IntKind.i64.wrap (Int.tdiv (-9223372036854775808) a)) ↔ ¬ in64 (a * b) := by
  have e : Int.tdiv (-9223372036854775808) a = -((9223372036854775808 : Int) / a) := by
    have h : Int.tdiv (-9223372036854775808) a = -(Int.tdiv 9223372036854775808 a) := Int.neg_tdiv (9223372036854775808 : Int) a
    have h5 : Int.tdiv 9223372036854775808 a = (9223372036854775808 : Int) / a := Int.tdiv_eq_ediv_of_nonneg (by omega)
    rw [h, h5]
  have h1 := div_in1 (M := 9223372036854775808) (y := a) (by omega) (by omega)
  rw [e, wrap_id (by omega) (by omega)]
  have h2 := mul_bound (x := -b) (y := a) (M := 9223372036854775808) ha
  have h4 : -b * a = -(a * b) := by rw [Int.neg_mul, Int.mul_comm]
  rw [h4] at h2
  have h3 : a * b < 0 := Int.mul_neg_of_pos_of_neg ha hb
  unfold in64
  constructor
  · intro h
    have := h2.1 (by omega)
    omega
  · intro h
    have := h2.2 (by omega)
    omega
theorem times_np {a b : Int} (ha : a < 0) (hb : 0 < b) : (a < IntKind.i64.wrap (Int.tdiv (-9223372036854775808) b)) ↔ ¬ in64 (a * b) := by
  have := times_pn hb ha
  rwa [Int.mul_comm] at this
theorem wrap_sub {a b : Int} : IntKind.i64.wrap (a - b) = IntKind.i64.wrap (a + -b) := by rw [Int.sub_eq_add_neg]
section
variable {a b : Int}
theorem Is.callN {P : Program} {f : FuncId} {xs : List AV} {p : Int × Int} {st : Sto} {K : AV → Sto → Prop} (h : Is P f xs (nfR p)) (k : ∀ x y, p = (x, y) → K (.t [vI .i64 x, vI .i64 y]) st) : Does P f xs st K := h.call (k p.1 p.2 rfl)
theorem Fin.nf {x y : Int} {p : Int × Int} {st st0 : Sto} (e : (x, y) = p) (h : Le st0 st) : Fin (fun r s => r = nfR p ∧ s = st0) (tupl [vI .i64 x, vI .i64 y]) st := .old (by rw [← e]; rfl) h
theorem back_is (ha : in64 a) : Is Tryz.prog 47 [vI .i64 a] (nfR (res (-a))) := by
  refine Is.of TP Tryz.func47 rfl rfl (Nat.le_of_ble_eq_true rfl) fun st => Pw.of TP [] ?_
  conv => whnf
  refine ⟨fun h => ?_, fun h => ?_⟩ <;> conv => whnf
  · exact Fin.nf (by rw [h]; rfl) (.refl _)
  · exact Fin.nf (by
      unfold in64 at ha
      rw [Int.zero_sub, wid (by unfold in64; omega)]; exact (res_in (by unfold in64; omega)).symm) (.refl _)
theorem size_is (ha : in64 a) : Is Tryz.prog 53 [vI .i64 a] (nfR (nsize a)) := by
  refine Is.of TP Tryz.func53 rfl rfl (Nat.le_of_ble_eq_true rfl) fun st => Pw.of TP [] ?_
  conv => whnf
  refine ⟨fun h => ?_, fun h => ?_⟩ <;> conv => whnf
  · refine Is.callN (back_is ha) fun x y e => ?_
    conv => whnf
    exact Fin.nf (by unfold nsize; rw [if_pos h, e]) (.refl _)
  · exact Fin.nf (by unfold nsize; rw [if_neg h]) (.refl _)
theorem plus_is (ha : in64 a) (hb : in64 b) : Is Tryz.prog 86 [vI .i64 a, vI .i64 b] (nfR (res (a + b))) := by
  refine Is.of TP Tryz.func86 rfl rfl (Nat.le_of_ble_eq_true rfl) fun st => Pw.of TP [] ?_
  conv => whnf
  have e1 : 0 < b → IntKind.i64.wrap (9223372036854775807 - b) = 9223372036854775807 - b := fun h => wid (by unfold in64 at *; omega)
  have e2 : b < 0 → IntKind.i64.wrap (-9223372036854775808 - b) = -9223372036854775808 - b := fun h => wid (by unfold in64 at *; omega)
  have e3 : in64 (a + b) → IntKind.i64.wrap (a + b) = a + b := wid
  repeat' (first | (refine ⟨fun h => ?_, fun h => ?_⟩ <;> conv => whnf) | fail)
  all_goals refine Fin.nf ?_ (.refl _)
  all_goals simp only [*] at *
  all_goals (first | (exfalso; omega) | (rw [res_out]; unfold in64 at *; omega) | (rw [e3, res_in] <;> (unfold in64 at *; omega)))
theorem minus_is (ha : in64 a) (hb : in64 b) : Is Tryz.prog 87 [vI .i64 a, vI .i64 b] (nfR (res (a - b))) := by
  refine Is.of TP Tryz.func87 rfl rfl (Nat.le_of_ble_eq_true rfl) fun st => Pw.of TP [] ?_
  conv => whnf
  have e1 : b < 0 → IntKind.i64.wrap (9223372036854775807 + b) = 9223372036854775807 + b := fun h => wid (by unfold in64 at *; omega)
  have e2 : 0 < b → IntKind.i64.wrap (-9223372036854775808 + b) = -9223372036854775808 + b := fun h => wid (by unfold in64 at *; omega)
  have e3 : in64 (a - b) → IntKind.i64.wrap (a - b) = a - b := wid
  repeat' (first | (refine ⟨fun h => ?_, fun h => ?_⟩ <;> conv => whnf) | fail)
  all_goals refine Fin.nf ?_ (.refl _)
  all_goals simp only [*] at *
  all_goals (first | (exfalso; omega) | (rw [res_out]; unfold in64 at *; omega) | (rw [e3, res_in] <;> (unfold in64 at *; omega)))
theorem over_is (ha : in64 a) : Is Tryz.prog 89 [vI .i64 a, vI .i64 b] (nfR (nover a b)) := by
  refine Is.of TP Tryz.func89 rfl rfl (Nat.le_of_ble_eq_true rfl) fun st => Pw.of TP [] ?_
  conv => whnf
  repeat' (first | (refine ⟨fun h => ?_, fun h => ?_⟩ <;> conv => whnf) | (with_reducible refine And.intro ?_ ?_; assumption; conv => whnf))
  all_goals refine Fin.nf ?_ (.refl _)
  · unfold nover; rw [if_pos (by assumption)]
  · unfold nover; rw [if_neg (by assumption), res_out]; subst_vars; (unfold in64; decide)
  all_goals (unfold nover; rw [if_neg (by assumption), wid (tdiv_in ha (by assumption) (by omega)), res_in (tdiv_in ha (by assumption) (by omega))])
theorem rest_is (ha : in64 a) : Is Tryz.prog 90 [vI .i64 a, vI .i64 b] (nfR (nrest a b)) := by
  refine Is.of TP Tryz.func90 rfl rfl (Nat.le_of_ble_eq_true rfl) fun st => Pw.of TP [] ?_
  conv => whnf
  repeat' (first | (refine ⟨fun h => ?_, fun h => ?_⟩ <;> conv => whnf) | (with_reducible refine And.intro ?_ ?_; assumption; conv => whnf))
  all_goals refine Fin.nf ?_ (.refl _)
  · unfold nrest; rw [if_pos (by assumption)]
  · unfold nrest; rw [if_neg (by assumption), if_pos (by omega)]
  all_goals (unfold nrest; rw [if_neg (by assumption), if_neg (by omega)])
theorem times_is (ha : in64 a) (hb : in64 b) : Is Tryz.prog 88 [vI .i64 a, vI .i64 b] (nfR (res (a * b))) := by
  refine Is.of TP Tryz.func88 rfl rfl (Nat.le_of_ble_eq_true rfl) fun st => Pw.of TP [] ?_
  conv => whnf
  repeat' (first | (refine ⟨fun h => ?_, fun h => ?_⟩ <;> conv => whnf) | (with_reducible refine And.intro ?_ ?_; omega; conv => whnf) | (refine Is.callN (back_is ?_) fun x y e => ?_; assumption; conv => whnf) | (refine Pw.of TP [] ?_; conv => whnf))
  all_goals refine Fin.nf ?_ (.refl _)
  · subst_vars; rw [Int.zero_mul]; rfl
  · subst_vars; rw [Int.mul_zero]; rfl
  · rw [‹a = -1›, Int.neg_mul, Int.one_mul]; symm; assumption
  · rw [‹b = -1›, Int.mul_neg, Int.mul_one]; symm; assumption
  all_goals first | (exfalso; omega) | skip
  all_goals (rcases Int.lt_or_gt_of_ne ‹¬ a = 0› with a1 | a1 <;> rcases Int.lt_or_gt_of_ne ‹¬ b = 0› with b1 | b1 <;> first | (exfalso; omega) | skip)
  all_goals (first | (have q := times_pp a1 b1 ha.2) | (have q := times_pn a1 b1) | (have q := times_nn a1 b1) | (have q := times_np a1 b1))
  all_goals (by_cases r : in64 (a * b) <;> first | (rw [wid r, res_in r]; done) | (rw [res_out r]; done) | (exfalso; simp_all; done) | (exfalso; grind) )
end
end Go.Proofs.YtbmgenifdlgbmaaGreat.D
namespace Go.Proofs.YtbmgenifdlgbmaaGreat.D
set_option linter.unusedVariables false
set_option linter.unusedSimpArgs false
open Go Go.Proofs.YtbmgenifdlgbmaaGreat.D.Pm
set_option maxRecDepth 4000
def tnot (t : Int) : Int := if t = 0 then 1 else if t = 1 then 0 else 2
def zV : Val := ⟨0, 0, ⟨#[]⟩⟩
def tval (t : Int) : Val := if t = 0 ∨ t = 1 then ⟨2, t, ⟨#[]⟩⟩ else zV
def tof (v : Val) : Int × Int := if v.k = 0 then (2, 0) else if v.k ≠ 2 then (0, 11) else if v.n ≠ 0 then (1, 0) else (0, 0)
def tcome (w : Int) (l : List Int) : Int := if l.any (fun t => decide (t = w)) = true then w else if l.any (fun t => !decide (t = tnot w)) = true then 2 else tnot w
def iC (t : Int) : List AC := [.v (.int .i64 t)]
def evR (p : Val × Int) : AV := .t [.g (eV p.1), vI .i64 p.2]
theorem Is.callV {P : Program} {f : FuncId} {xs : List AV} {p : Val × Int} {st : Sto} {K : AV → Sto → Prop} (h : Is P f xs (evR p)) (k : ∀ v n, p = (v, n) → K (.t [.g (eV v), vI .i64 n]) st) : Does P f xs st K := h.call (k p.1 p.2 rfl)
theorem Fin.ev {v : Val} {n : Int} {r : AV} {p : Val × Int} {st st0 : Sto} (hr : r = tupl [.g (eV v), vI .i64 n]) (e : (v, n) = p) (h : Le st0 st) : Fin (fun r s => r = evR p ∧ s = st0) r st := .old (by rw [hr, ← e]; rfl) h
theorem tnot_is (t : Int) : Is Tryz.prog 45 [vI .i64 t] (vI .i64 (tnot t)) := by
  refine Is.of TP Tryz.func45 rfl rfl (Nat.le_of_ble_eq_true rfl) fun st => Pw.of TP [] ?_
  conv => whnf
  repeat' (first | (refine ⟨fun h => ?_, fun h => ?_⟩ <;> conv => whnf) | fail)
  all_goals refine Fin.old (congrArg (vI .i64) ?_) (.refl _)
  all_goals simp [tnot, *]
theorem tval_is (t : Int) : Is Tryz.prog 43 [vI .i64 t] (.g (eV (tval t))) := by
  refine Is.of TP Tryz.func43 rfl rfl (Nat.le_of_ble_eq_true rfl) fun st => Pw.of TP [] ?_
  conv => whnf
  intro id hid
  conv => whnf
  repeat' (first | (refine ⟨fun h => ?_, fun h => ?_⟩ <;> conv => whnf) | fail)
  all_goals (apply Exists.intro; apply And.intro; (first | ((with_reducible (repeat (refine Eq.trans (upd_ne _ ?_) ?_; (first | assumption | (apply Ne.symm; assumption))))); first | exact upd_same _ _ _ | assumption) | ((repeat (refine Eq.trans (upd_ne _ ?_) ?_; (first | assumption | (apply Ne.symm; assumption)))); first | exact upd_same _ _ _ | assumption)); refine ⟨Nat.le_of_ble_eq_true rfl, ?_⟩; conv => whnf)
  all_goals (apply Exists.intro; apply And.intro; (first | ((with_reducible (repeat (refine Eq.trans (upd_ne _ ?_) ?_; (first | assumption | (apply Ne.symm; assumption))))); first | exact upd_same _ _ _ | assumption) | ((repeat (refine Eq.trans (upd_ne _ ?_) ?_; (first | assumption | (apply Ne.symm; assumption)))); first | exact upd_same _ _ _ | assumption)); conv => whnf)
  all_goals refine Fin.old ?_ (.up2 (.up2 (.refl _) hid) hid)
  all_goals (unfold tval; simp only [*]; rfl)
theorem tof_is (v : Val) : Is Tryz.prog 17 [.g (eV v)] (nfR (tof v)) := by
  refine Is.of TP Tryz.func17 rfl rfl (Nat.le_of_ble_eq_true rfl) fun st => Pw.of TP [] ?_
  conv => whnf
  repeat' (first | (refine ⟨fun h => ?_, fun h => ?_⟩ <;> conv => whnf) | fail)
  all_goals refine Fin.nf ?_ (.refl _)
  all_goals simp [tof, *]
theorem tcome_is (l : List Int) (hl : l.length ≤ Big) (w : Int) : Is Tryz.prog 78 [.c (.sl 1 (l.map iC)), vI .i64 w] (vI .i64 (tcome w l)) := by
  refine Is.of TP Tryz.func78 rfl rfl (Nat.le_of_ble_eq_true rfl) fun st => Pw.of TP [] ?_
  conv => whnf
  refine Is.callI (tnot_is w) fun nw hn => ?_
  conv => whnf
  refine Pw.rng (τ := Int) 12 (l.map iC).length (by simpa using hl) [0, 1, 10, 11] (fun o => [(5, vI .i64 o)]) (fun i o => (∀ t ∈ l.take i, t ≠ w) ∧ o = if (l.take i).any (fun t => !decide (t = nw)) = true then 2 else nw) nw rfl ⟨rfl, trivial⟩ ⟨fun t h => by simp at h, rfl⟩ fun i o hi hx => Pw.of TP [] ?_
  obtain ⟨hx1, hx2⟩ := hx
  conv => whnf
  refine ⟨fun h => ?_, fun h => ?_⟩ <;> conv => whnf
  · have hi' : i < l.length := lt_map h
    refine ixm hi' ?_
    conv => whnf
    refine ⟨fun h => ?_, fun h => ?_⟩ <;> conv => whnf
    · refine Fin.old (congrArg (vI .i64) ?_) (.refl _)
      unfold tcome
      rw [if_pos (List.any_eq_true.2 ⟨_, List.getElem_mem hi', by simpa using ‹_›⟩)]
    · refine Is.callI (tnot_is w) fun nw' hn' => ?_
      rw [hn] at hn'
      subst hn'
      conv => whnf
      have key : ∀ t ∈ l.take (i + 1), t ≠ w := fun t ht => by
        rw [List.take_succ_eq_append_getElem hi'] at ht
        rcases List.mem_append.1 ht with ht | ht
        · exact hx1 t ht
        · simp at ht; subst ht; assumption
      refine ⟨fun h => ?_, fun h => ?_⟩ <;> conv => whnf
      · exact ⟨by simpa using hi', rfl, ⟨rfl, rfl, rfl, rfl, trivial⟩, 2, ⟨rfl, trivial⟩, .refl _, key, by rw [any_take hi']; simp [*]⟩
      · exact ⟨by simpa using hi', rfl, ⟨rfl, rfl, rfl, rfl, trivial⟩, o, ⟨rfl, trivial⟩, .refl _, key, by rw [any_take hi']; simp_all⟩
  · have hi' := nlt_map h (by simpa using hi)
    refine Fin.old (congrArg (vI .i64) ?_) (.refl _)
    subst hi'
    rw [List.take_length] at hx1 hx2
    unfold tcome
    rw [if_neg (fun e => by obtain ⟨t, h1, h2⟩ := List.any_eq_true.1 e; exact hx1 t h1 (by simpa using h2)), hx2, ← hn]
theorem tand_is (l : List Int) (hl : l.length ≤ Big) : Is Tryz.prog 72 [.c (.sl 1 (l.map iC))] (vI .i64 (tcome 0 l)) := by
  refine Is.of TP Tryz.func72 rfl rfl (Nat.le_of_ble_eq_true rfl) fun st => Pw.of TP [] ?_
  conv => whnf
  refine Is.callI (tcome_is l hl 0) fun r hr => ?_
  conv => whnf
  exact Fin.old (congrArg (vI .i64) hr.symm) (.refl _)
theorem tor_is (l : List Int) (hl : l.length ≤ Big) : Is Tryz.prog 52 [.c (.sl 1 (l.map iC))] (vI .i64 (tcome 1 l)) := by
  refine Is.of TP Tryz.func52 rfl rfl (Nat.le_of_ble_eq_true rfl) fun st => Pw.of TP [] ?_
  conv => whnf
  refine Is.callI (tcome_is l hl 1) fun r hr => ?_
  conv => whnf
  exact Fin.old (congrArg (vI .i64) hr.symm) (.refl _)
/-- a truth as a value, if there is no error -/
def eknown (t f : Int) : Val × Int := if f ≠ 0 then (zV, f) else (tval t, 0)
def ewhole (n f : Int) : Val × Int := if f ≠ 0 then (zV, f) else (⟨1, n, ⟨#[]⟩⟩, 0)
theorem eknown_is (t f : Int) : Is Tryz.prog 44 [vI .i64 t, vI .i64 f] (evR (eknown t f)) := by
  refine Is.of TP Tryz.func44 rfl rfl (Nat.le_of_ble_eq_true rfl) fun st => Pw.of TP [] ?_
  conv => whnf
  intro id hid
  conv => whnf
  refine ⟨fun h => ?_, fun h => ?_⟩ <;> conv => whnf
  · (apply Exists.intro; apply And.intro; (first | ((with_reducible (repeat (refine Eq.trans (upd_ne _ ?_) ?_; (first | assumption | (apply Ne.symm; assumption))))); first | exact upd_same _ _ _ | assumption) | ((repeat (refine Eq.trans (upd_ne _ ?_) ?_; (first | assumption | (apply Ne.symm; assumption)))); first | exact upd_same _ _ _ | assumption)); refine ⟨Nat.le_of_ble_eq_true rfl, ?_⟩; conv => whnf)
    (apply Exists.intro; apply And.intro; (first | ((with_reducible (repeat (refine Eq.trans (upd_ne _ ?_) ?_; (first | assumption | (apply Ne.symm; assumption))))); first | exact upd_same _ _ _ | assumption) | ((repeat (refine Eq.trans (upd_ne _ ?_) ?_; (first | assumption | (apply Ne.symm; assumption)))); first | exact upd_same _ _ _ | assumption)); conv => whnf)
    exact Fin.ev (v := zV) rfl (by unfold eknown; rw [if_pos h]) (.up2 (.up2 (.refl _) hid) hid)
  · refine (tval_is t).call ?_
    conv => whnf
    (apply Exists.intro; apply And.intro; (first | ((with_reducible (repeat (refine Eq.trans (upd_ne _ ?_) ?_; (first | assumption | (apply Ne.symm; assumption))))); first | exact upd_same _ _ _ | assumption) | ((repeat (refine Eq.trans (upd_ne _ ?_) ?_; (first | assumption | (apply Ne.symm; assumption)))); first | exact upd_same _ _ _ | assumption)); refine ⟨Nat.le_of_ble_eq_true rfl, ?_⟩; conv => whnf)
    (apply Exists.intro; apply And.intro; (first | ((with_reducible (repeat (refine Eq.trans (upd_ne _ ?_) ?_; (first | assumption | (apply Ne.symm; assumption))))); first | exact upd_same _ _ _ | assumption) | ((repeat (refine Eq.trans (upd_ne _ ?_) ?_; (first | assumption | (apply Ne.symm; assumption)))); first | exact upd_same _ _ _ | assumption)); conv => whnf)
    exact Fin.ev (v := tval t) rfl (by unfold eknown; rw [if_neg h]) (.up2 (.up2 (.refl _) hid) hid)
theorem ewhole_is (n f : Int) : Is Tryz.prog 46 [vI .i64 n, vI .i64 f] (evR (ewhole n f)) := by
  refine Is.of TP Tryz.func46 rfl rfl (Nat.le_of_ble_eq_true rfl) fun st => Pw.of TP [] ?_
  conv => whnf
  intro id hid
  conv => whnf
  refine ⟨fun h => ?_, fun h => ?_⟩ <;> conv => whnf
  · (apply Exists.intro; apply And.intro; (first | ((with_reducible (repeat (refine Eq.trans (upd_ne _ ?_) ?_; (first | assumption | (apply Ne.symm; assumption))))); first | exact upd_same _ _ _ | assumption) | ((repeat (refine Eq.trans (upd_ne _ ?_) ?_; (first | assumption | (apply Ne.symm; assumption)))); first | exact upd_same _ _ _ | assumption)); refine ⟨Nat.le_of_ble_eq_true rfl, ?_⟩; conv => whnf)
    (apply Exists.intro; apply And.intro; (first | ((with_reducible (repeat (refine Eq.trans (upd_ne _ ?_) ?_; (first | assumption | (apply Ne.symm; assumption))))); first | exact upd_same _ _ _ | assumption) | ((repeat (refine Eq.trans (upd_ne _ ?_) ?_; (first | assumption | (apply Ne.symm; assumption)))); first | exact upd_same _ _ _ | assumption)); conv => whnf)
    exact Fin.ev (v := zV) rfl (by unfold ewhole; rw [if_pos h]) (.up2 (.up2 (.refl _) hid) hid)
  · (apply Exists.intro; apply And.intro; (first | ((with_reducible (repeat (refine Eq.trans (upd_ne _ ?_) ?_; (first | assumption | (apply Ne.symm; assumption))))); first | exact upd_same _ _ _ | assumption) | ((repeat (refine Eq.trans (upd_ne _ ?_) ?_; (first | assumption | (apply Ne.symm; assumption)))); first | exact upd_same _ _ _ | assumption)); refine ⟨Nat.le_of_ble_eq_true rfl, ?_⟩; conv => whnf)
    (apply Exists.intro; apply And.intro; (first | ((with_reducible (repeat (refine Eq.trans (upd_ne _ ?_) ?_; (first | assumption | (apply Ne.symm; assumption))))); first | exact upd_same _ _ _ | assumption) | ((repeat (refine Eq.trans (upd_ne _ ?_) ?_; (first | assumption | (apply Ne.symm; assumption)))); first | exact upd_same _ _ _ | assumption)); conv => whnf)
    exact Fin.ev (v := ⟨1, n, ⟨#[]⟩⟩) rfl (by unfold ewhole; rw [if_neg h]) (.up2 (.up2 (.refl _) hid) hid)
def eone (l : List Val) (at_ : Int) : Val × Int := match l[at_.toNat]? with
  | some v => if at_ < 0 then (zV, 37) else (v, 0)
  | none => (zV, 37)
theorem eone_is (l : List Val) (n : Int) : Is Tryz.prog 23 [.c (.sl 3 (l.map eV)), vI .i64 n] (evR (eone l n)) := by
  refine Is.of TP Tryz.func23 rfl rfl (Nat.le_of_ble_eq_true rfl) fun st => Pw.of TP [] ?_
  conv => whnf
  intro id hid
  conv => whnf
  repeat' (first | (refine ⟨fun h => ?_, fun h => ?_⟩ <;> conv => whnf) | fail)
  · (apply Exists.intro; apply And.intro; (first | ((with_reducible (repeat (refine Eq.trans (upd_ne _ ?_) ?_; (first | assumption | (apply Ne.symm; assumption))))); first | exact upd_same _ _ _ | assumption) | ((repeat (refine Eq.trans (upd_ne _ ?_) ?_; (first | assumption | (apply Ne.symm; assumption)))); first | exact upd_same _ _ _ | assumption)); refine ⟨Nat.le_of_ble_eq_true rfl, ?_⟩; conv => whnf)
    (apply Exists.intro; apply And.intro; (first | ((with_reducible (repeat (refine Eq.trans (upd_ne _ ?_) ?_; (first | assumption | (apply Ne.symm; assumption))))); first | exact upd_same _ _ _ | assumption) | ((repeat (refine Eq.trans (upd_ne _ ?_) ?_; (first | assumption | (apply Ne.symm; assumption)))); first | exact upd_same _ _ _ | assumption)); conv => whnf)
    exact Fin.ev (v := zV) rfl (by unfold eone; split <;> simp [*]) (.up2 (.up2 (.refl _) hid) hid)
  · (apply Exists.intro; apply And.intro; (first | ((with_reducible (repeat (refine Eq.trans (upd_ne _ ?_) ?_; (first | assumption | (apply Ne.symm; assumption))))); first | exact upd_same _ _ _ | assumption) | ((repeat (refine Eq.trans (upd_ne _ ?_) ?_; (first | assumption | (apply Ne.symm; assumption)))); first | exact upd_same _ _ _ | assumption)); refine ⟨Nat.le_of_ble_eq_true rfl, ?_⟩; conv => whnf)
    (apply Exists.intro; apply And.intro; (first | ((with_reducible (repeat (refine Eq.trans (upd_ne _ ?_) ?_; (first | assumption | (apply Ne.symm; assumption))))); first | exact upd_same _ _ _ | assumption) | ((repeat (refine Eq.trans (upd_ne _ ?_) ?_; (first | assumption | (apply Ne.symm; assumption)))); first | exact upd_same _ _ _ | assumption)); conv => whnf)
    exact Fin.ev (v := zV) rfl (by unfold eone; rw [List.getElem?_eq_none (by simp at *; omega)]) (.up2 (.up2 (.refl _) hid) hid)
  · have hlt : n.toNat < l.length := by simp at *; omega
    obtain ⟨m, rfl⟩ : ∃ m : Nat, n = m := ⟨n.toNat, by omega⟩
    refine ixm hlt ?_
    conv => whnf
    (apply Exists.intro; apply And.intro; (first | ((with_reducible (repeat (refine Eq.trans (upd_ne _ ?_) ?_; (first | assumption | (apply Ne.symm; assumption))))); first | exact upd_same _ _ _ | assumption) | ((repeat (refine Eq.trans (upd_ne _ ?_) ?_; (first | assumption | (apply Ne.symm; assumption)))); first | exact upd_same _ _ _ | assumption)); refine ⟨Nat.le_of_ble_eq_true rfl, ?_⟩; conv => whnf)
    (apply Exists.intro; apply And.intro; (first | ((with_reducible (repeat (refine Eq.trans (upd_ne _ ?_) ?_; (first | assumption | (apply Ne.symm; assumption))))); first | exact upd_same _ _ _ | assumption) | ((repeat (refine Eq.trans (upd_ne _ ?_) ?_; (first | assumption | (apply Ne.symm; assumption)))); first | exact upd_same _ _ _ | assumption)); conv => whnf)
    exact Fin.ev (v := l[m]) rfl (by unfold eone; rw [List.getElem?_eq_getElem (by simpa using hlt)]; simp) (.up2 (.up2 (.refl _) hid) hid)
end Go.Proofs.YtbmgenifdlgbmaaGreat.D
namespace Go.Proofs.YtbmgenifdlgbmaaGreat.D
set_option linter.unusedVariables false
set_option linter.unusedSimpArgs false
open Go Go.Proofs.YtbmgenifdlgbmaaGreat.D.Pm
set_option maxRecDepth 4000
def vknown (v : Val) : Bool := decide (0 ≤ v.k ∧ v.k ≤ 3)
def cmpI (a b : Int) : Int := if a < b then -1 else if b < a then 1 else 0
def cmpS (a b : ByteArray) : Int := if Op.bytesLess a.toList b.toList = true then -1 else if (!(Op.bytesLess a.toList b.toList || decide (a = b))) = true then 1 else 0
def firstN (l : List Int) : Int := (l.find? (fun t => !decide (t = 0))).getD 0
def vorder (a b : Val) : Int := firstN [cmpI a.k b.k, cmpI a.n b.n, cmpS a.s b.s]
def opIs (op n : Int) : Bool := if op = 3 then decide (n = 0) else if op = 4 then decide (¬ n = 0) else if op = 5 then decide (n < 0) else if op = 6 then decide (n ≤ 0) else if op = 7 then decide (0 < n) else decide (0 ≤ n)
def vcompare (op : Int) (a b : Val) : Int × Int :=
  if op < 3 ∨ 8 < op ∨ vknown a = false ∨ vknown b = false then (0, 11) else if a.k = 0 ∨ b.k = 0 then (2, 0) else if a.k ≠ b.k then (0, 11) else if opIs op (vorder a b) = true then (1, 0) else (0, 0)
def vtakes (op : Int) : Int := if 9 ≤ op ∧ op ≤ 13 then 1 else if op = 14 then 3 else 0
def vints (op a b : Int) : Int × Int := if op = 9 then res (a + b) else if op = 10 then res (a - b) else if op = 11 then res (a * b) else if op = 12 then nover a b else nrest a b
def vmath (op : Int) (a b : Val) : Val × Int :=
  if vtakes op = 0 ∨ (a.k ≠ vtakes op ∧ a.k ≠ 0) ∨ (b.k ≠ vtakes op ∧ b.k ≠ 0) then (zV, 11) else if a.k = 0 ∨ b.k = 0 then (zV, 0) else
  if vtakes op = 3 then if 32 < a.s.size ∨ 32 < a.s.size + b.s.size then (zV, 3) else (⟨3, 0, a.s ++ b.s⟩, 0)
  else if (vints op a.n b.n).2 ≠ 0 then (zV, (vints op a.n b.n).2) else (⟨1, (vints op a.n b.n).1, ⟨#[]⟩⟩, 0)
theorem vknown_is (v : Val) : Is Tryz.prog 73 [.g (eV v)] (vB (vknown v)) := by
  refine Is.of TP Tryz.func73 rfl rfl (Nat.le_of_ble_eq_true rfl) fun st => Pw.of TP [] ?_
  conv => whnf
  repeat' (first | (refine ⟨fun h => ?_, fun h => ?_⟩ <;> conv => whnf) | fail)
  all_goals (refine Fin.old (congrArg vB ?_) (.refl _); simp [vknown, *])
theorem nanI_is (a : Int) : Is Tryz.prog 104 [vI .i64 a] (vB false) := by
  refine Is.of TP Tryz.func104 rfl rfl (Nat.le_of_ble_eq_true rfl) fun st => Pw.of TP [] ?_
  conv => whnf
  refine ⟨fun h => ?_, fun h => ?_⟩ <;> conv => whnf
  · exact absurd rfl h
  · exact Fin.old rfl (.refl _)
theorem nanS_is (a : ByteArray) : Is Tryz.prog 105 [vS a] (vB false) := by
  refine Is.of TP Tryz.func105 rfl rfl (Nat.le_of_ble_eq_true rfl) fun st => Pw.of TP [] ?_
  conv => whnf
  refine ⟨fun h => ?_, fun h => ?_⟩ <;> conv => whnf
  · exact absurd rfl h
  · exact Fin.old rfl (.refl _)
theorem cmpI_is (a b : Int) : Is Tryz.prog 84 [vI .i64 a, vI .i64 b] (vI .i64 (cmpI a b)) := by
  refine Is.of TP Tryz.func84 rfl rfl (Nat.le_of_ble_eq_true rfl) fun st => Pw.of TP [] ?_
  conv => whnf
  refine (nanI_is a).call ?_
  conv => whnf
  refine (nanI_is b).call ?_
  conv => whnf
  repeat' (first | (refine ⟨fun h => ?_, fun h => ?_⟩ <;> conv => whnf) | fail)
  all_goals refine Fin.old (congrArg (vI .i64) ?_) (.refl _)
  all_goals simp [cmpI, *]
theorem cmpS_is (a b : ByteArray) : Is Tryz.prog 85 [vS a, vS b] (vI .i64 (cmpS a b)) := by
  refine Is.of TP Tryz.func85 rfl rfl (Nat.le_of_ble_eq_true rfl) fun st => Pw.of TP [] ?_
  conv => whnf
  refine (nanS_is a).call ?_
  conv => whnf
  refine (nanS_is b).call ?_
  conv => whnf
  cases e : Op.bytesLess a.toList b.toList <;> conv => whnf
  · cases e2 : (!(Op.bytesLess a.toList b.toList || decide (a = b))) <;> conv => whnf
    · exact Fin.old (congrArg (vI .i64) (by unfold cmpS; rw [if_neg (by rw [e]; decide), if_neg (by rw [e2]; decide)])) (.refl _)
    · exact Fin.old (congrArg (vI .i64) (by unfold cmpS; rw [if_neg (by rw [e]; decide), if_pos e2])) (.refl _)
  · exact Fin.old (congrArg (vI .i64) (by simp [cmpS, e])) (.refl _)
theorem or_is (l : List Int) (hl : l.length ≤ Big) : Is Tryz.prog 103 [.c (.sl 1 (l.map iC))] (vI .i64 (firstN l)) := by
  refine Is.of TP Tryz.func103 rfl rfl (Nat.le_of_ble_eq_true rfl) fun st => Pw.of TP [] ?_
  conv => whnf
  refine Pw.rng (τ := Unit) 8 (l.map iC).length (by simpa using hl) [0, 3, 6, 7] (fun _ => []) (fun i _ => ∀ t ∈ l.take i, t = 0) () rfl trivial (fun t h => by simp at h) fun i _ hi hx => Pw.of TP [] ?_
  conv => whnf
  refine ⟨fun h => ?_, fun h => ?_⟩ <;> conv => whnf
  · have hi' : i < l.length := lt_map h
    refine ixm hi' ?_
    conv => whnf
    refine ⟨fun h => ?_, fun h => ?_⟩ <;> conv => whnf
    · refine Fin.old (congrArg (vI .i64) ?_) (.refl _)
      unfold firstN
      rw [find_at hi' (fun x hx2 => by simp [hx x hx2]) (by simpa using ‹_›)]; rfl
    · exact ⟨by simpa using hi', rfl, ⟨rfl, rfl, rfl, rfl, trivial⟩, (), trivial, .refl _, fun t ht => by
        rw [List.take_succ_eq_append_getElem hi'] at ht
        rcases List.mem_append.1 ht with ht | ht
        · exact hx t ht
        · simp at ht; subst ht; simp_all⟩
  · have hi' := nlt_map h (by simpa using hi)
    refine Fin.old (congrArg (vI .i64) ?_) (.refl _)
    subst hi'
    rw [List.take_length] at hx
    unfold firstN
    rw [find_no (fun x h => by simp [hx x h])]; rfl
theorem first_is (l : List Int) (hl : l.length ≤ Big) : Is Tryz.prog 83 [.c (.sl 1 (l.map iC))] (vI .i64 (firstN l)) := by
  refine Is.of TP Tryz.func83 rfl rfl (Nat.le_of_ble_eq_true rfl) fun st => Pw.of TP [] ?_
  conv => whnf
  refine Is.callI (or_is l hl) fun r hr => ?_
  conv => whnf
  exact Fin.old (congrArg (vI .i64) hr.symm) (.refl _)
theorem Does.arr1 {P : Program} {f : FuncId} {id sz n : Nat} {rows : List (List AC)} {st : Sto} {K : AV → Sto → Prop} (hid : st id = none) (hn : n = rows.length) (hr : ∀ r ∈ rows, r.length = sz) (h : Does P f [.c (.sl sz rows)] st K) : Does P f [.c (.arr id 0 n)] (upd st id (.ar sz rows)) K := by
  subst hn
  refine Does.argsD (as' := [.c (.sl sz rows)]) (st' := st) (only id) (only_old hid _) rfl (fun j r r' h1 h2 => ?_) h
  match j, h1, h2 with
  | 0, h1, h2 => cases h1; cases h2; exact .c _ _ (Fz.arr0 (by simp [only]) (upd_same _ _ _) hr)
  | j + 1, h1, h2 => simp at h1
theorem vorder_is (a b : Val) : Is Tryz.prog 74 [.g (eV a), .g (eV b)] (vI .i64 (vorder a b)) := by
  refine Is.of TP Tryz.func74 rfl rfl (Nat.le_of_ble_eq_true rfl) fun st => Pw.of TP [] ?_
  conv => whnf
  refine Pw.drwC TP mixed [15, 16, 17] (by kernel_rfl) ?_; conv => whnf
  refine Is.drawI (cmpI_is _ _) fun x hx => ?_
  conv => whnf
  refine Is.drawI (cmpI_is _ _) fun y hy => ?_
  conv => whnf
  refine Is.drawI (cmpS_is _ _) fun z hz => ?_
  conv => whnf
  intro id hid
  conv => whnf
  refine Does.arr1 hid rfl (fun r hr => ?_) (Is.callI (first_is [x, y, z] (Nat.le_of_ble_eq_true rfl)) fun r hr => ?_)
  · simp at hr; rcases hr with rfl | rfl | rfl <;> rfl
  conv => whnf
  exact Fin.old (congrArg (vI .i64) (by rw [← hr, ← hx, ← hy, ← hz]; rfl)) (.refl _)
theorem vcompare_is (op : Int) (a b : Val) : Is Tryz.prog 49 [vI .i64 op, .g (eV a), .g (eV b)] (nfR (vcompare op a b)) := by
  refine Is.of TP Tryz.func49 rfl rfl (Nat.le_of_ble_eq_true rfl) fun st => Pw.of TP [] ?_
  conv => whnf
  repeat' (first | (refine ⟨fun h => ?_, fun h => ?_⟩ <;> conv => whnf) | (refine Is.callB (vknown_is _) fun b hb => ?_; cases b <;> conv => whnf) | (refine Is.callI (vorder_is _ _) fun r hr => ?_; conv => whnf))
  all_goals refine Fin.nf ?_ (.refl _)
  all_goals (unfold vcompare; repeat' split)
  all_goals first | rfl | (exfalso; omega) | (exfalso; simp_all; done) | (exfalso; simp_all; omega) | (simp_all [opIs]; done) | (simp_all [opIs]; omega)
theorem vtakes_is (op : Int) : Is Tryz.prog 75 [vI .i64 op] (vI .i64 (vtakes op)) := by
  refine Is.of TP Tryz.func75 rfl rfl (Nat.le_of_ble_eq_true rfl) fun st => Pw.of TP [] ?_
  conv => whnf
  repeat' (first | (refine ⟨fun h => ?_, fun h => ?_⟩ <;> conv => whnf) | fail)
  all_goals refine Fin.old (congrArg (vI .i64) ?_) (.refl _)
  all_goals (unfold vtakes; first | (rw [if_pos (by omega)]; done) | (rw [if_neg (by omega)]; first | (rw [if_pos (by omega)]; done) | (rw [if_neg (by omega)]; done)))
theorem vints_is (op a b : Int) (ha : in64 a) (hb : in64 b) : Is Tryz.prog 76 [vI .i64 op, vI .i64 a, vI .i64 b] (nfR (vints op a b)) := by
  refine Is.of TP Tryz.func76 rfl rfl (Nat.le_of_ble_eq_true rfl) fun st => Pw.of TP [] ?_
  conv => whnf
  repeat' (first | (refine ⟨fun h => ?_, fun h => ?_⟩ <;> conv => whnf) | (refine Is.callN (plus_is ha hb) fun x y e => ?_; conv => whnf) | (refine Is.callN (minus_is ha hb) fun x y e => ?_; conv => whnf) | (refine Is.callN (times_is ha hb) fun x y e => ?_; conv => whnf) | (refine Is.callN (over_is ha) fun x y e => ?_; conv => whnf) | (refine Is.callN (rest_is ha) fun x y e => ?_; conv => whnf))
  all_goals refine Fin.nf ?_ (.refl _)
  all_goals simp [vints, *]
theorem vmath_is (op : Int) (a b : Val) (ha : in64 a.n) (hb : in64 b.n) (ha2 : a.s.size ≤ Big) (hb2 : b.s.size ≤ Big) : Is Tryz.prog 50 [vI .i64 op, .g (eV a), .g (eV b)] (evR (vmath op a b)) := by
  refine Is.of TP Tryz.func50 rfl rfl (Nat.le_of_ble_eq_true rfl) fun st => Pw.of TP [] ?_
  have hw : IntKind.i64.wrap (32 - (a.s.size : Int)) = 32 - (a.s.size : Int) := wid (by unfold in64; unfold Big at ha2; omega)
  have hA : a.s.size ≤ 4611686018427387903 := ha2
  have hB : b.s.size ≤ 4611686018427387903 := hb2
  conv => whnf
  intro id hid
  conv => whnf
  refine Is.callI (vtakes_is op) fun k hk => ?_
  conv => whnf
  repeat' (first | (refine ⟨fun h => ?_, fun h => ?_⟩ <;> conv => whnf) | (apply Exists.intro; apply And.intro; (first | ((with_reducible (repeat (refine Eq.trans (upd_ne _ ?_) ?_; (first | assumption | (apply Ne.symm; assumption))))); first | exact upd_same _ _ _ | assumption) | ((repeat (refine Eq.trans (upd_ne _ ?_) ?_; (first | assumption | (apply Ne.symm; assumption)))); first | exact upd_same _ _ _ | assumption)); refine ⟨Nat.le_of_ble_eq_true rfl, ?_⟩; conv => whnf) | (apply Exists.intro; apply And.intro; (first | ((with_reducible (repeat (refine Eq.trans (upd_ne _ ?_) ?_; (first | assumption | (apply Ne.symm; assumption))))); first | exact upd_same _ _ _ | assumption) | ((repeat (refine Eq.trans (upd_ne _ ?_) ?_; (first | assumption | (apply Ne.symm; assumption)))); first | exact upd_same _ _ _ | assumption)); conv => whnf) | (with_reducible refine And.intro ?_ ?_; omega; conv => whnf) | (refine Is.callN (vints_is op _ _ ha hb) fun x y e => ?_; conv => whnf))
  all_goals first | refine Fin.ev (v := zV) rfl ?_ (.up2 (.up2 (.refl _) hid) hid) | refine Fin.ev (v := ⟨3, 0, a.s ++ b.s⟩) rfl ?_ (.up2 (.up2 (.refl _) hid) hid) | refine Fin.ev (v := ⟨1, x, ⟨#[]⟩⟩) rfl ?_ (.up2 (.up2 (.refl _) hid) hid)
  all_goals clear hid
  all_goals (unfold vmath; simp only [hk]; repeat' split)
  all_goals first | rfl | (exfalso; omega) | (exfalso; simp_all; done) | (exfalso; simp_all; omega) | (simp_all; done) | (simp_all; omega)
end Go.Proofs.YtbmgenifdlgbmaaGreat.D
namespace Go.Proofs.YtbmgenifdlgbmaaGreat.D
set_option linter.unusedVariables false
set_option linter.unusedSimpArgs false
open Go Go.Proofs.YtbmgenifdlgbmaaGreat.D.Pm
set_option maxRecDepth 4000
def eEnv (row ps : List Val) : List AC := [.sl 3 (row.map eV), .sl 3 (ps.map eV)]
def itm (p : Val × Int) : List AV := [.g (eV p.1), vI .i64 p.2]
def items : List (Val × Int) → List (List AV)
  | [] => []
  | p :: r => itm p :: if p.2 = 0 then items r else []
theorem rounds_items {l N : Nat} {pp : List Tmp} {assign body : Code} {Q : Exit → Env → Sto → Prop} {env : Env} (hp : pp.length = 2) (I : List (Val × Int) → Sto → Prop) (h0 : ∀ st, I [] st → Q .normal env st)
    (h1 : ∀ x n r st, I ((x, n) :: r) st → Pw (ρ := some l) Tryz.prog N assign (fun e env1 st1 => e = .normal ∧ Pw (ρ := some l) Tryz.prog N body (fun e _ st' => match e with
      | .normal => n = 0 ∧ I r st'
      | .ret => Q .ret env st'
      | .exit i => Q (.exit i) env st'
      | .goto t => Q (.goto t) env st'
      | _ => False) env1 st1) (putps N pp [.g (eV x), vI .i64 n] env) st) : ∀ rs st, I rs st → rounds Tryz.prog N l pp assign body Q env (items rs) st
  | [], st, h => h0 st h
  | (x, n) :: r, st, h => ⟨hp.symm, (h1 x n r st h).mono fun e env1 st1 ⟨he, h2⟩ => ⟨he, h2.mono fun e env2 st2 h3 => by
      cases e with
      | normal =>
        show rounds _ _ _ _ _ _ _ _ (if n = 0 then items r else []) st2
        rw [if_pos h3.1]
        exact rounds_items hp I h0 h1 r st2 h3.2
      | _ => exact h3⟩⟩
section
variable (row ps : List Val) (E : Ex → Val × Int)
theorem values_iter (l : List Ex) (hl : l.length ≤ Big) (hev : ∀ e ∈ l, Is Tryz.prog 14 [.g (eEnv row ps), .g (eE e)] (evR (E e))) : Iter Tryz.prog 77 [.ep [.sl 7 (eEs l)], .ep (eEnv row ps)] (items (l.map E)) := by
  intro σ ln S Y hY s st K hr
  refine DoesE.of TP Tryz.func77 rfl rfl rfl (Nat.le_of_ble_eq_true rfl) ?_
  refine PwE.seq (PwE.pw (Pw.of TP [] ?_))
  conv => whnf
  refine PwE.block ?_
  refine PwE.loop (τ := Nat × Sto × σ) (fun x => [(10, vI .i64 (x.1 : Nat)), (8, .c (.sl 7 (eEs l))), (9, vI .i64 (l.length : Nat)), (0, .c (.yd ln)), (1, .c (.ep [.sl 7 (eEs l)])), (2, .c (.ep (eEnv row ps)))]) (fun x => x.2.1) (fun x => x.2.2) (fun x => x.1 ≤ l.length ∧ runY Y (items ((l.drop x.1).map E)) x.2.2 x.2.1 K) (fun x => l.length - x.1) ⟨(0, st, s), .mk ⟨rfl, rfl, by simp [eEs_len]; rfl, rfl, rfl, rfl, trivial⟩ (.refl _), rfl, Nat.zero_le _, by simpa using hr⟩ ?_
  rintro ⟨i, st1, s1⟩ ⟨hi, hr1⟩
  refine PwE.seq (PwE.pw (Pw.of TP [] ?_))
  conv => whnf
  refine ⟨fun h => ?_, fun h => ?_⟩
  · have hi' : i < l.length := by omega
    refine PwE.seq (PwE.pw (Pw.of TP [] ?_))
    conv => whnf
    refine PwE.seq (PwE.block (PwE.seq (PwE.pw (Pw.of TP [] ?_))))
    conv => whnf
    refine ixE hi' ?_
    have hE := hev _ (List.getElem_mem hi')
    have e1 : (l.drop i).map E = E l[i] :: (l.drop (i + 1)).map E := by rw [List.drop_eq_getElem_cons hi', List.map_cons]
    dsimp only
    generalize l[i] = e0 at hE e1
    cases e0
    conv => whnf
    refine PwE.seq (PwE.pw (Pw.of TP [] ?_))
    conv => whnf
    refine Is.callV hE fun v n hvn => ?_
    conv => whnf
    rw [hvn] at e1
    rw [e1] at hr1
    refine PwE.seq (PwE.region TP (spY_ok hY) ?_)
    conv => whnf
    refine .inr ?_
    conv => whnf
    refine .inr ?_
    conv => whnf
    refine .inr ?_
    conv => whnf
    refine .inl ⟨rfl, _, _, _, [.g (eV v), vI .i64 n], rfl, rfl, rfl, hY.mono (fun b s2 st2 hk => ?_) hr1⟩
    cases b
    · rw [if_neg (by decide)] at hk
      repeat (refine Or.inr ?_; conv => whnf)
      refine PwE.pw (Pw.of TP [] ?_)
      conv => whnf
      exact hk
    · rw [if_pos rfl] at hk
      repeat (refine Or.inr ?_; conv => whnf)
      refine ⟨fun h => ?_, fun h => ?_⟩ <;> conv => whnf
      · repeat (refine Or.inr ?_; conv => whnf)
        refine PwE.pw (Pw.of TP [] ?_)
        conv => whnf
        rw [if_neg ‹_›] at hk
        exact hk
      · repeat (refine Or.inr ?_; conv => whnf)
        refine PwE.pw (Pw.of TP [] ?_)
        conv => whnf
        refine PwE.pw (Pw.of TP [] ?_)
        conv => whnf
        refine ⟨(i + 1, st2, s2), .mk ⟨?_, rfl, rfl, rfl, rfl, rfl, trivial⟩ (.refl _), rfl, ⟨hi', ?_⟩, ?_⟩
        · exact congrArg (fun x => some (vI .i64 x)) (wrap_nat (Nat.le_of_lt hi') hl)
        · rw [if_pos (by omega)] at hk
          exact hk
        · show l.length - (i + 1) < l.length - i
          omega
  · have hi' : i = l.length := by have := hi; dsimp only at h this; omega
    refine PwE.seq (PwE.pw (Pw.of TP [] ?_))
    conv => whnf
    subst hi'
    simp only [List.drop_length, List.map_nil] at hr1
    exact hr1
end
end Go.Proofs.YtbmgenifdlgbmaaGreat.D
namespace Go.Proofs.YtbmgenifdlgbmaaGreat.D
set_option linter.unusedVariables false
set_option linter.unusedSimpArgs false
open Go Go.Proofs.YtbmgenifdlgbmaaGreat.D.Pm
set_option maxRecDepth 4000
def eun (op : Int) (p : Val × Int) : Val × Int :=
  if p.2 ≠ 0 then (zV, p.2) else if op = 3 ∨ op = 4 then (if (p.1.k = 0) = (op = 3) then (tval 1, 0) else (tval 0, 0)) else if p.1.k = 0 then (zV, 0)
  else if op = 2 then eknown (tnot (tof p.1).1) (tof p.1).2 else if p.1.k ≠ 1 then (zV, 11) else ewhole (res (-p.1.n)).1 (res (-p.1.n)).2
def ebin (op : Int) (p q : Val × Int) : Val × Int :=
  if p.2 ≠ 0 then (zV, p.2) else if q.2 ≠ 0 then (zV, q.2) else if op ≤ 8 then eknown (vcompare op p.1 q.1).1 (vcompare op p.1 q.1).2 else vmath op p.1 q.1
section
variable (row ps : List Val) (k op : Int) (v : Val) (nm : ByteArray)
theorem un_is (kid : Ex) (p : Val × Int) (hk : Is Tryz.prog 14 [.g (eEnv row ps), .g (eE kid)] (evR p)) (hn : in64 p.1.n) : Is Tryz.prog 24 [.g (eEnv row ps), .g (eE (.mk k op v nm [kid]))] (evR (eun op p)) := by
  refine Is.of TP Tryz.func24 rfl rfl (Nat.le_of_ble_eq_true rfl) fun st => Pw.of TP [] ?_
  conv => whnf
  intro id hid
  conv => whnf
  refine Pw.drwC TP mixed [9, 10, 11] (by kernel_rfl) ?_; conv => whnf
  refine ⟨Int.le_refl 0, by simp [eEs], _, rfl, ?_⟩
  cases kid
  conv => whnf
  obtain ⟨x, f⟩ := p
  refine Is.draw hk ?_
  conv => whnf
  intro id2 hid2
  conv => whnf
  (apply Exists.intro; apply And.intro; (first | ((with_reducible (repeat (refine Eq.trans (upd_ne _ ?_) ?_; (first | assumption | (apply Ne.symm; assumption))))); first | exact upd_same _ _ _ | assumption) | ((repeat (refine Eq.trans (upd_ne _ ?_) ?_; (first | assumption | (apply Ne.symm; assumption)))); first | exact upd_same _ _ _ | assumption)); refine ⟨Nat.le_of_ble_eq_true rfl, ?_⟩; conv => whnf)
  have hne := fresh_ne hid2 (upd_same _ _ _)
  have hn2 := (Le.upd hid).none hid2
  clear hid2
  repeat' (first | (refine ⟨fun h => ?_, fun h => ?_⟩ <;> conv => whnf) | (apply Exists.intro; apply And.intro; (first | ((with_reducible (repeat (refine Eq.trans (upd_ne _ ?_) ?_; (first | assumption | (apply Ne.symm; assumption))))); first | exact upd_same _ _ _ | assumption) | ((repeat (refine Eq.trans (upd_ne _ ?_) ?_; (first | assumption | (apply Ne.symm; assumption)))); first | exact upd_same _ _ _ | assumption)); refine ⟨Nat.le_of_ble_eq_true rfl, ?_⟩; conv => whnf) | (apply Exists.intro; apply And.intro; (first | ((with_reducible (repeat (refine Eq.trans (upd_ne _ ?_) ?_; (first | assumption | (apply Ne.symm; assumption))))); first | exact upd_same _ _ _ | assumption) | ((repeat (refine Eq.trans (upd_ne _ ?_) ?_; (first | assumption | (apply Ne.symm; assumption)))); first | exact upd_same _ _ _ | assumption)); conv => whnf) | (refine (tval_is _).call ?_; conv => whnf) | (refine Is.callN (tof_is _) fun a b hab => ?_; conv => whnf) | (refine Is.callI (tnot_is _) fun c hc => ?_; conv => whnf) | (refine Is.callV (eknown_is _ _) fun y m hym => ?_; conv => whnf) | (refine Is.callN (back_is hn) fun a b hab => ?_; conv => whnf) | (refine Is.callV (ewhole_is _ _) fun y m hym => ?_; conv => whnf))
  all_goals first | refine Fin.ev (v := zV) rfl ?_ (by (first | (with_reducible (iterate 24 (try any_goals (first | exact Le.refl _ | assumption | apply Le.up2))); done) | (iterate 24 (try any_goals (first | exact Le.refl _ | assumption | apply Le.up2))))) | refine Fin.ev (v := tval 0) rfl ?_ (by (first | (with_reducible (iterate 24 (try any_goals (first | exact Le.refl _ | assumption | apply Le.up2))); done) | (iterate 24 (try any_goals (first | exact Le.refl _ | assumption | apply Le.up2))))) | refine Fin.ev (v := tval 1) rfl ?_ (by (first | (with_reducible (iterate 24 (try any_goals (first | exact Le.refl _ | assumption | apply Le.up2))); done) | (iterate 24 (try any_goals (first | exact Le.refl _ | assumption | apply Le.up2))))) | refine Fin.ev (v := y) rfl ?_ (by (first | (with_reducible (iterate 24 (try any_goals (first | exact Le.refl _ | assumption | apply Le.up2))); done) | (iterate 24 (try any_goals (first | exact Le.refl _ | assumption | apply Le.up2)))))
  all_goals clear hk hne hn2 hid
  all_goals dsimp only at *
  all_goals (unfold eun; dsimp only; repeat' split)
  all_goals first | rfl | (exfalso; omega) | (exfalso; simp_all; done) | (exfalso; simp_all; omega) | (simp_all; done) | (simp_all; omega)
theorem bin_is (k1 k2 : Ex) (p q r : Val × Int) (hk1 : Is Tryz.prog 14 [.g (eEnv row ps), .g (eE k1)] (evR p)) (hk2 : Is Tryz.prog 14 [.g (eEnv row ps), .g (eE k2)] (evR q))
    (hb : Is Tryz.prog 48 [.g (eEnv row ps), .g (eE (.mk k op v nm [k1, k2]))] (evR r)) (hp : in64 p.1.n ∧ p.1.s.size ≤ Big) (hq : in64 q.1.n ∧ q.1.s.size ≤ Big) :
    Is Tryz.prog 25 [.g (eEnv row ps), .g (eE (.mk k op v nm [k1, k2]))] (evR (if op ≤ 2 then r else ebin op p q)) := by
  refine Is.of TP Tryz.func25 rfl rfl (Nat.le_of_ble_eq_true rfl) fun st => Pw.of TP [] ?_
  conv => whnf
  intro id hid
  conv => whnf
  refine ⟨fun h => ?_, fun h => ?_⟩ <;> conv => whnf
  · refine Is.callV hb fun y m hym => ?_
    conv => whnf
    repeat' (first | (apply Exists.intro; apply And.intro; (first | ((with_reducible (repeat (refine Eq.trans (upd_ne _ ?_) ?_; (first | assumption | (apply Ne.symm; assumption))))); first | exact upd_same _ _ _ | assumption) | ((repeat (refine Eq.trans (upd_ne _ ?_) ?_; (first | assumption | (apply Ne.symm; assumption)))); first | exact upd_same _ _ _ | assumption)); refine ⟨Nat.le_of_ble_eq_true rfl, ?_⟩; conv => whnf) | (apply Exists.intro; apply And.intro; (first | ((with_reducible (repeat (refine Eq.trans (upd_ne _ ?_) ?_; (first | assumption | (apply Ne.symm; assumption))))); first | exact upd_same _ _ _ | assumption) | ((repeat (refine Eq.trans (upd_ne _ ?_) ?_; (first | assumption | (apply Ne.symm; assumption)))); first | exact upd_same _ _ _ | assumption)); conv => whnf))
    exact Fin.ev (v := y) rfl (by rw [if_pos h, hym]) (by (first | (with_reducible (iterate 24 (try any_goals (first | exact Le.refl _ | assumption | apply Le.up2))); done) | (iterate 24 (try any_goals (first | exact Le.refl _ | assumption | apply Le.up2)))))
  · refine Pw.drwC TP mixed [9, 10, 11] (by kernel_rfl) ?_; conv => whnf
    refine ⟨Int.le_refl 0, by simp [eEs], _, rfl, ?_⟩
    cases k1
    conv => whnf
    obtain ⟨x, f⟩ := p
    refine Is.draw hk1 ?_
    conv => whnf
    intro id2 hid2
    conv => whnf
    (apply Exists.intro; apply And.intro; (first | ((with_reducible (repeat (refine Eq.trans (upd_ne _ ?_) ?_; (first | assumption | (apply Ne.symm; assumption))))); first | exact upd_same _ _ _ | assumption) | ((repeat (refine Eq.trans (upd_ne _ ?_) ?_; (first | assumption | (apply Ne.symm; assumption)))); first | exact upd_same _ _ _ | assumption)); refine ⟨Nat.le_of_ble_eq_true rfl, ?_⟩; conv => whnf)
    have hne := fresh_ne hid2 (upd_same _ _ _)
    have hn2 := (Le.upd hid).none hid2
    clear hid2
    refine ⟨fun h => ?_, fun h => ?_⟩ <;> conv => whnf
    · repeat' (first | (apply Exists.intro; apply And.intro; (first | ((with_reducible (repeat (refine Eq.trans (upd_ne _ ?_) ?_; (first | assumption | (apply Ne.symm; assumption))))); first | exact upd_same _ _ _ | assumption) | ((repeat (refine Eq.trans (upd_ne _ ?_) ?_; (first | assumption | (apply Ne.symm; assumption)))); first | exact upd_same _ _ _ | assumption)); refine ⟨Nat.le_of_ble_eq_true rfl, ?_⟩; conv => whnf) | (apply Exists.intro; apply And.intro; (first | ((with_reducible (repeat (refine Eq.trans (upd_ne _ ?_) ?_; (first | assumption | (apply Ne.symm; assumption))))); first | exact upd_same _ _ _ | assumption) | ((repeat (refine Eq.trans (upd_ne _ ?_) ?_; (first | assumption | (apply Ne.symm; assumption)))); first | exact upd_same _ _ _ | assumption)); conv => whnf))
      refine Fin.ev (v := zV) rfl ?_ (by (first | (with_reducible (iterate 24 (try any_goals (first | exact Le.refl _ | assumption | apply Le.up2))); done) | (iterate 24 (try any_goals (first | exact Le.refl _ | assumption | apply Le.up2)))))
      rw [if_neg (by assumption)]
      unfold ebin
      rw [if_pos h]
    · refine Pw.drwC TP mixed [9, 10, 11] (by kernel_rfl) ?_; conv => whnf
      refine ⟨by decide, by simp [eEs], _, rfl, ?_⟩
      cases k2
      conv => whnf
      obtain ⟨z, g⟩ := q
      refine Is.draw hk2 ?_
      conv => whnf
      intro id3 hid3
      conv => whnf
      (apply Exists.intro; apply And.intro; (first | ((with_reducible (repeat (refine Eq.trans (upd_ne _ ?_) ?_; (first | assumption | (apply Ne.symm; assumption))))); first | exact upd_same _ _ _ | assumption) | ((repeat (refine Eq.trans (upd_ne _ ?_) ?_; (first | assumption | (apply Ne.symm; assumption)))); first | exact upd_same _ _ _ | assumption)); refine ⟨Nat.le_of_ble_eq_true rfl, ?_⟩; conv => whnf)
      have hne3 := fresh_ne hid3 (upd_same _ _ _)
      have hne4 : id ≠ id3 := fresh_ne hid3 (by (first | ((with_reducible (repeat (refine Eq.trans (upd_ne _ ?_) ?_; (first | assumption | (apply Ne.symm; assumption))))); first | exact upd_same _ _ _ | assumption) | ((repeat (refine Eq.trans (upd_ne _ ?_) ?_; (first | assumption | (apply Ne.symm; assumption)))); first | exact upd_same _ _ _ | assumption)))
      have hn3 : st id3 = none := Le.none (by (first | (with_reducible (iterate 24 (try any_goals (first | exact Le.refl _ | assumption | apply Le.up2))); done) | (iterate 24 (try any_goals (first | exact Le.refl _ | assumption | apply Le.up2))))) hid3
      clear hid3
      repeat' (first | (refine ⟨fun h => ?_, fun h => ?_⟩ <;> conv => whnf) | (apply Exists.intro; apply And.intro; (first | ((with_reducible (repeat (refine Eq.trans (upd_ne _ ?_) ?_; (first | assumption | (apply Ne.symm; assumption))))); first | exact upd_same _ _ _ | assumption) | ((repeat (refine Eq.trans (upd_ne _ ?_) ?_; (first | assumption | (apply Ne.symm; assumption)))); first | exact upd_same _ _ _ | assumption)); refine ⟨Nat.le_of_ble_eq_true rfl, ?_⟩; conv => whnf) | (apply Exists.intro; apply And.intro; (first | ((with_reducible (repeat (refine Eq.trans (upd_ne _ ?_) ?_; (first | assumption | (apply Ne.symm; assumption))))); first | exact upd_same _ _ _ | assumption) | ((repeat (refine Eq.trans (upd_ne _ ?_) ?_; (first | assumption | (apply Ne.symm; assumption)))); first | exact upd_same _ _ _ | assumption)); conv => whnf) | (refine Is.callN (vcompare_is _ _ _) fun a b hab => ?_; conv => whnf) | (refine Is.callV (eknown_is _ _) fun y m hym => ?_; conv => whnf) | (refine Is.callV (vmath_is _ _ _ hp.1 hq.1 hp.2 hq.2) fun y m hym => ?_; conv => whnf))
      all_goals first | refine Fin.ev (v := zV) rfl ?_ (by (first | (with_reducible (iterate 24 (try any_goals (first | exact Le.refl _ | assumption | apply Le.up2))); done) | (iterate 24 (try any_goals (first | exact Le.refl _ | assumption | apply Le.up2))))) | refine Fin.ev (v := y) rfl ?_ (by (first | (with_reducible (iterate 24 (try any_goals (first | exact Le.refl _ | assumption | apply Le.up2))); done) | (iterate 24 (try any_goals (first | exact Le.refl _ | assumption | apply Le.up2)))))
      all_goals clear hk1 hk2 hb hne hn2 hid hne3 hne4 hn3
      all_goals dsimp only at *
      all_goals rw [if_neg (by assumption)]
      all_goals unfold ebin
      all_goals dsimp only
      all_goals first | (simp_all; done) | (simp_all; intro _; omega)
theorem values_is (l : List Ex) : Is Tryz.prog 51 [.g (eEnv row ps), .c (.sl 7 (eEs l))] (.c (.fn 77 [.ep [.sl 7 (eEs l)], .ep (eEnv row ps)])) := by
  refine Is.of TP Tryz.func51 rfl rfl (Nat.le_of_ble_eq_true rfl) fun st => Pw.of TP [] ?_
  conv => whnf
  exact Fin.old rfl (.refl _)
def ecoal : List (Val × Int) → Val × Int
  | [] => (zV, 0)
  | p :: r => if p.2 ≠ 0 ∨ p.1.k ≠ 0 then p else ecoal r
def ecall (nm : ByteArray) (rs : List (Val × Int)) : Val × Int :=
  if nm = coalesceS then ecoal rs else match rs with
  | [] => (zV, 0)
  | p :: _ => if p.2 ≠ 0 ∨ p.1.k = 0 then (zV, p.2) else if nm = lengthS ∧ p.1.k = 3 then ewhole p.1.s.size 0 else if nm = absS ∧ p.1.k = 1 then ewhole (nsize p.1.n).1 (nsize p.1.n).2 else (zV, 11)
theorem call_is2 (kid : Ex) (kids : List Ex) (F : Ex → Val × Int) (hl : (kid :: kids).length ≤ Big) (hk : ∀ e ∈ kid :: kids, Is Tryz.prog 14 [.g (eEnv row ps), .g (eE e)] (evR (F e))) (hn : in64 (F kid).1.n) :
    Is Tryz.prog 27 [.g (eEnv row ps), .g (eE (.mk k op v nm (kid :: kids)))] (evR (ecall nm ((kid :: kids).map F))) := by
  refine Is.of TP Tryz.func27 rfl rfl (Nat.le_of_ble_eq_true rfl) fun st => Pw.of TP [6] ?_
  conv => whnf
  intro id hid
  conv => whnf
  intro id2 hid2
  conv => whnf
  refine ⟨fun h => ?_, fun h => ?_⟩ <;> conv => whnf
  · refine (values_is row ps (kid :: kids)).call ?_
    conv => whnf
    refine Pw.gen fun S hS => ?_
    have hne := fresh_ne hid2 (upd_same _ _ _)
    have hn2 := (Le.upd hid).none hid2
    have a1 : S id = some (.bx (eV zV)) := by rw [hS]; (first | ((with_reducible (repeat (refine Eq.trans (upd_ne _ ?_) ?_; (first | assumption | (apply Ne.symm; assumption))))); first | exact upd_same _ _ _ | assumption) | ((repeat (refine Eq.trans (upd_ne _ ?_) ?_; (first | assumption | (apply Ne.symm; assumption)))); first | exact upd_same _ _ _ | assumption))
    have a2 : S id2 = some (.bx [.v (.int .i64 0)]) := by rw [hS]; (first | ((with_reducible (repeat (refine Eq.trans (upd_ne _ ?_) ?_; (first | assumption | (apply Ne.symm; assumption))))); first | exact upd_same _ _ _ | assumption) | ((repeat (refine Eq.trans (upd_ne _ ?_) ?_; (first | assumption | (apply Ne.symm; assumption)))); first | exact upd_same _ _ _ | assumption))
    have le : Le st S := by rw [hS]; (first | (with_reducible (iterate 24 (try any_goals (first | exact Le.refl _ | assumption | apply Le.up2))); done) | (iterate 24 (try any_goals (first | exact Le.refl _ | assumption | apply Le.up2))))
    clear hS hid2
    have hc : nm = coalesceS := h
    refine Pw.rangeFunc rfl (values_iter row ps F (kid :: kids) hl hk) fun l => rounds_items rfl (fun rs st' => st' = S ∧ ecoal ((kid :: kids).map F) = ecoal rs) ?_ ?_ _ _ ⟨rfl, rfl⟩
    · rintro st' ⟨rfl, hx⟩
      conv => whnf
      repeat' (first | (apply Exists.intro; apply And.intro; (first | ((with_reducible (repeat (refine Eq.trans (upd_ne _ ?_) ?_; (first | assumption | (apply Ne.symm; assumption))))); first | exact upd_same _ _ _ | assumption) | ((repeat (refine Eq.trans (upd_ne _ ?_) ?_; (first | assumption | (apply Ne.symm; assumption)))); first | exact upd_same _ _ _ | assumption)); refine ⟨Nat.le_of_ble_eq_true rfl, ?_⟩; conv => whnf) | (apply Exists.intro; apply And.intro; (first | ((with_reducible (repeat (refine Eq.trans (upd_ne _ ?_) ?_; (first | assumption | (apply Ne.symm; assumption))))); first | exact upd_same _ _ _ | assumption) | ((repeat (refine Eq.trans (upd_ne _ ?_) ?_; (first | assumption | (apply Ne.symm; assumption)))); first | exact upd_same _ _ _ | assumption)); conv => whnf))
      exact Fin.ev (v := zV) rfl (by unfold ecall; rw [if_pos hc, hx]; rfl) (by (first | (with_reducible (iterate 24 (try any_goals (first | exact Le.refl _ | assumption | apply Le.up2))); done) | (iterate 24 (try any_goals (first | exact Le.refl _ | assumption | apply Le.up2)))))
    · rintro x n r st' ⟨rfl, hx⟩
      refine Pw.of TP [] ?_
      conv => whnf
      refine ⟨rfl, Pw.of TP [] ?_⟩
      conv => whnf
      repeat' (first | (refine ⟨fun h => ?_, fun h => ?_⟩ <;> conv => whnf) | (apply Exists.intro; apply And.intro; (first | ((with_reducible (repeat (refine Eq.trans (upd_ne _ ?_) ?_; (first | assumption | (apply Ne.symm; assumption))))); first | exact upd_same _ _ _ | assumption) | ((repeat (refine Eq.trans (upd_ne _ ?_) ?_; (first | assumption | (apply Ne.symm; assumption)))); first | exact upd_same _ _ _ | assumption)); refine ⟨Nat.le_of_ble_eq_true rfl, ?_⟩; conv => whnf) | (apply Exists.intro; apply And.intro; (first | ((with_reducible (repeat (refine Eq.trans (upd_ne _ ?_) ?_; (first | assumption | (apply Ne.symm; assumption))))); first | exact upd_same _ _ _ | assumption) | ((repeat (refine Eq.trans (upd_ne _ ?_) ?_; (first | assumption | (apply Ne.symm; assumption)))); first | exact upd_same _ _ _ | assumption)); conv => whnf))
      · exact Fin.ev (v := x) rfl (by unfold ecall; rw [if_pos hc, hx]; unfold ecoal; rw [if_pos (.inl h)]) (by (first | (with_reducible (iterate 24 (try any_goals (first | exact Le.refl _ | assumption | apply Le.up2))); done) | (iterate 24 (try any_goals (first | exact Le.refl _ | assumption | apply Le.up2)))))
      · exact Fin.ev (v := x) rfl (by unfold ecall; rw [if_pos hc, hx]; unfold ecoal; rw [if_pos (.inr h)]) (by (first | (with_reducible (iterate 24 (try any_goals (first | exact Le.refl _ | assumption | apply Le.up2))); done) | (iterate 24 (try any_goals (first | exact Le.refl _ | assumption | apply Le.up2)))))
      · refine ⟨by omega, rfl, ?_⟩
        rw [hx]
        conv => lhs; unfold ecoal
        rw [if_neg (by dsimp only; omega)]
  · refine Pw.drwC TP mixed [9, 10, 11] (by kernel_rfl) ?_; conv => whnf
    refine ⟨Int.le_refl 0, by simp [eEs], _, rfl, ?_⟩
    have hk1 := hk kid (List.mem_cons_self ..)
    have hc : ¬ nm = coalesceS := h
    have e1 : ecall nm ((kid :: kids).map F) = (if (F kid).2 ≠ 0 ∨ (F kid).1.k = 0 then (zV, (F kid).2) else if nm = lengthS ∧ (F kid).1.k = 3 then ewhole (F kid).1.s.size 0 else if nm = absS ∧ (F kid).1.k = 1 then ewhole (nsize (F kid).1.n).1 (nsize (F kid).1.n).2 else (zV, 11)) := by
      unfold ecall; rw [if_neg hc]; rfl
    rw [e1]
    clear e1 hk hl h
    generalize F kid = p at hk1 hn
    cases kid
    conv => whnf
    obtain ⟨x, f⟩ := p
    refine Is.draw hk1 ?_
    conv => whnf
    intro id3 hid3
    conv => whnf
    (apply Exists.intro; apply And.intro; (first | ((with_reducible (repeat (refine Eq.trans (upd_ne _ ?_) ?_; (first | assumption | (apply Ne.symm; assumption))))); first | exact upd_same _ _ _ | assumption) | ((repeat (refine Eq.trans (upd_ne _ ?_) ?_; (first | assumption | (apply Ne.symm; assumption)))); first | exact upd_same _ _ _ | assumption)); refine ⟨Nat.le_of_ble_eq_true rfl, ?_⟩; conv => whnf)
    have hne : id ≠ id2 := fresh_ne hid2 (upd_same _ _ _)
    have hn2 := (Le.upd hid).none hid2
    have hne3 : id2 ≠ id3 := fresh_ne hid3 (by (first | ((with_reducible (repeat (refine Eq.trans (upd_ne _ ?_) ?_; (first | assumption | (apply Ne.symm; assumption))))); first | exact upd_same _ _ _ | assumption) | ((repeat (refine Eq.trans (upd_ne _ ?_) ?_; (first | assumption | (apply Ne.symm; assumption)))); first | exact upd_same _ _ _ | assumption)))
    have hne4 : id ≠ id3 := fresh_ne hid3 (by (first | ((with_reducible (repeat (refine Eq.trans (upd_ne _ ?_) ?_; (first | assumption | (apply Ne.symm; assumption))))); first | exact upd_same _ _ _ | assumption) | ((repeat (refine Eq.trans (upd_ne _ ?_) ?_; (first | assumption | (apply Ne.symm; assumption)))); first | exact upd_same _ _ _ | assumption)))
    have hn3 : st id3 = none := Le.none (by (first | (with_reducible (iterate 24 (try any_goals (first | exact Le.refl _ | assumption | apply Le.up2))); done) | (iterate 24 (try any_goals (first | exact Le.refl _ | assumption | apply Le.up2))))) hid3
    clear hid3 hid2
    repeat' (first | (refine ⟨fun h => ?_, fun h => ?_⟩ <;> conv => whnf) | (apply Exists.intro; apply And.intro; (first | ((with_reducible (repeat (refine Eq.trans (upd_ne _ ?_) ?_; (first | assumption | (apply Ne.symm; assumption))))); first | exact upd_same _ _ _ | assumption) | ((repeat (refine Eq.trans (upd_ne _ ?_) ?_; (first | assumption | (apply Ne.symm; assumption)))); first | exact upd_same _ _ _ | assumption)); refine ⟨Nat.le_of_ble_eq_true rfl, ?_⟩; conv => whnf) | (apply Exists.intro; apply And.intro; (first | ((with_reducible (repeat (refine Eq.trans (upd_ne _ ?_) ?_; (first | assumption | (apply Ne.symm; assumption))))); first | exact upd_same _ _ _ | assumption) | ((repeat (refine Eq.trans (upd_ne _ ?_) ?_; (first | assumption | (apply Ne.symm; assumption)))); first | exact upd_same _ _ _ | assumption)); conv => whnf) | (refine Is.callN (size_is hn) fun a b hab => ?_; conv => whnf) | (refine Is.callV (ewhole_is _ _) fun y m hym => ?_; conv => whnf))
    all_goals first | refine Fin.ev (v := zV) rfl ?_ (by (first | (with_reducible (iterate 24 (try any_goals (first | exact Le.refl _ | assumption | apply Le.up2))); done) | (iterate 24 (try any_goals (first | exact Le.refl _ | assumption | apply Le.up2))))) | refine Fin.ev (v := y) rfl ?_ (by (first | (with_reducible (iterate 24 (try any_goals (first | exact Le.refl _ | assumption | apply Le.up2))); done) | (iterate 24 (try any_goals (first | exact Le.refl _ | assumption | apply Le.up2)))))
    all_goals clear hk1 hne hn2 hne3 hne4 hn3 hid
    all_goals dsimp only at *
    all_goals (simp only [lengthS, absS]; repeat' split)
    all_goals first | rfl | (exfalso; omega) | (exfalso; simp_all; done) | (exfalso; simp_all; omega) | (simp_all; done) | (simp_all; omega)
end
end Go.Proofs.YtbmgenifdlgbmaaGreat.D
namespace Go.Proofs.YtbmgenifdlgbmaaGreat.D
set_option linter.unusedVariables false
set_option linter.unusedSimpArgs false
open Go Go.Proofs.YtbmgenifdlgbmaaGreat.D.Pm
set_option maxRecDepth 4000
def einL (x : Val) : Int → List (Val × Int) → Val × Int
  | out, [] => (tval out, 0)
  | out, p :: r => if p.2 ≠ 0 then (zV, p.2) else if (vcompare 3 x p.1).2 ≠ 0 then (zV, (vcompare 3 x p.1).2) else if (vcompare 3 x p.1).1 = 1 then (tval (tcome 1 [out, (vcompare 3 x p.1).1]), 0) else einL x (tcome 1 [out, (vcompare 3 x p.1).1]) r
theorem einL_cons (x : Val) (o : Int) (p : Val × Int) (r : List (Val × Int)) : einL x o (p :: r) = if p.2 ≠ 0 then (zV, p.2) else if (vcompare 3 x p.1).2 ≠ 0 then (zV, (vcompare 3 x p.1).2) else if (vcompare 3 x p.1).1 = 1 then (tval (tcome 1 [o, (vcompare 3 x p.1).1]), 0) else einL x (tcome 1 [o, (vcompare 3 x p.1).1]) r := by rw [einL]
def ein : List (Val × Int) → Val × Int
  | [] => (zV, 0)
  | p :: r => if p.2 ≠ 0 ∨ p.1.k = 0 then (zV, p.2) else einL p.1 0 r
def ebothL (e : Int) : Int → List (Val × Int) → Val × Int
  | out, [] => (tval out, 0)
  | out, p :: r => if p.2 ≠ 0 then (zV, p.2) else if (tof p.1).2 ≠ 0 then (zV, (tof p.1).2) else if (tof p.1).1 = e then (tval (tcome e [out, (tof p.1).1]), 0) else ebothL e (tcome e [out, (tof p.1).1]) r
theorem ebothL_cons (e o : Int) (p : Val × Int) (r : List (Val × Int)) : ebothL e o (p :: r) = if p.2 ≠ 0 then (zV, p.2) else if (tof p.1).2 ≠ 0 then (zV, (tof p.1).2) else if (tof p.1).1 = e then (tval (tcome e [o, (tof p.1).1]), 0) else ebothL e (tcome e [o, (tof p.1).1]) r := by rw [ebothL]
def eboth (op : Int) (rs : List (Val × Int)) : Val × Int := ebothL (if op = 1 then 1 else 0) (tnot (if op = 1 then 1 else 0)) rs
section
variable (row ps : List Val) (k op : Int) (v : Val) (nm : ByteArray)
theorem in_is (kid : Ex) (kids : List Ex) (F : Ex → Val × Int) (hl : (kid :: kids).length ≤ Big) (hk : ∀ e ∈ kid :: kids, Is Tryz.prog 14 [.g (eEnv row ps), .g (eE e)] (evR (F e))) :
    Is Tryz.prog 26 [.g (eEnv row ps), .g (eE (.mk k op v nm (kid :: kids)))] (evR (ein ((kid :: kids).map F))) := by
  have hk1 := hk kid (List.mem_cons_self ..)
  have hk2 : ∀ e ∈ kids, _ := fun e he => hk e (List.mem_cons_of_mem _ he)
  have hl2 : kids.length ≤ Big := by have := hl; simp at this; omega
  rw [List.map_cons]
  generalize F kid = p at hk1
  clear hk
  obtain ⟨x, f⟩ := p
  cases kid
  refine Is.of TP Tryz.func26 rfl rfl (Nat.le_of_ble_eq_true rfl) fun st => Pw.of TP [1000008] ?_
  conv => whnf
  intro id4 h4
  conv => whnf
  intro id5 h5
  conv => whnf
  refine Pw.drwC TP mixed [9, 10, 11] (by kernel_rfl) ?_; conv => whnf
  refine ⟨Int.le_refl 0, by simp [eEs], _, rfl, ?_⟩
  conv => whnf
  refine Is.draw hk1 ?_
  conv => whnf
  intro id6 h6
  conv => whnf
  (apply Exists.intro; apply And.intro; (first | ((with_reducible (repeat (refine Eq.trans (upd_ne _ ?_) ?_; (first | assumption | (apply Ne.symm; assumption))))); first | exact upd_same _ _ _ | assumption) | ((repeat (refine Eq.trans (upd_ne _ ?_) ?_; (first | assumption | (apply Ne.symm; assumption)))); first | exact upd_same _ _ _ | assumption)); refine ⟨Nat.le_of_ble_eq_true rfl, ?_⟩; conv => whnf)
  have n45 : id4 ≠ id5 := fresh_ne h5 (upd_same _ _ _)
  have h5' := (Le.upd h4).none h5
  have n56 : id5 ≠ id6 := fresh_ne h6 (by (first | ((with_reducible (repeat (refine Eq.trans (upd_ne _ ?_) ?_; (first | assumption | (apply Ne.symm; assumption))))); first | exact upd_same _ _ _ | assumption) | ((repeat (refine Eq.trans (upd_ne _ ?_) ?_; (first | assumption | (apply Ne.symm; assumption)))); first | exact upd_same _ _ _ | assumption)))
  have n46 : id4 ≠ id6 := fresh_ne h6 (by (first | ((with_reducible (repeat (refine Eq.trans (upd_ne _ ?_) ?_; (first | assumption | (apply Ne.symm; assumption))))); first | exact upd_same _ _ _ | assumption) | ((repeat (refine Eq.trans (upd_ne _ ?_) ?_; (first | assumption | (apply Ne.symm; assumption)))); first | exact upd_same _ _ _ | assumption)))
  have h6' : st id6 = none := Le.none (by (first | (with_reducible (iterate 24 (try any_goals (first | exact Le.refl _ | assumption | apply Le.up2))); done) | (iterate 24 (try any_goals (first | exact Le.refl _ | assumption | apply Le.up2))))) h6
  clear h5 h6
  repeat' (first | (refine ⟨fun h => ?_, fun h => ?_⟩ <;> conv => whnf) | (apply Exists.intro; apply And.intro; (first | ((with_reducible (repeat (refine Eq.trans (upd_ne _ ?_) ?_; (first | assumption | (apply Ne.symm; assumption))))); first | exact upd_same _ _ _ | assumption) | ((repeat (refine Eq.trans (upd_ne _ ?_) ?_; (first | assumption | (apply Ne.symm; assumption)))); first | exact upd_same _ _ _ | assumption)); refine ⟨Nat.le_of_ble_eq_true rfl, ?_⟩; conv => whnf) | (apply Exists.intro; apply And.intro; (first | ((with_reducible (repeat (refine Eq.trans (upd_ne _ ?_) ?_; (first | assumption | (apply Ne.symm; assumption))))); first | exact upd_same _ _ _ | assumption) | ((repeat (refine Eq.trans (upd_ne _ ?_) ?_; (first | assumption | (apply Ne.symm; assumption)))); first | exact upd_same _ _ _ | assumption)); conv => whnf))
  all_goals first | refine Fin.ev (v := zV) rfl ?_ (by (first | (with_reducible (iterate 24 (try any_goals (first | exact Le.refl _ | assumption | apply Le.up2))); done) | (iterate 24 (try any_goals (first | exact Le.refl _ | assumption | apply Le.up2))))) | skip
  · show _ = if f ≠ 0 ∨ x.k = 0 then (zV, f) else _
    rw [if_pos (.inl (by assumption))]
  · show _ = if f ≠ 0 ∨ x.k = 0 then (zV, f) else _
    rw [if_pos (.inr (by assumption))]
  intro id8 h8
  conv => whnf
  (apply Exists.intro; apply And.intro; (first | ((with_reducible (repeat (refine Eq.trans (upd_ne _ ?_) ?_; (first | assumption | (apply Ne.symm; assumption))))); first | exact upd_same _ _ _ | assumption) | ((repeat (refine Eq.trans (upd_ne _ ?_) ?_; (first | assumption | (apply Ne.symm; assumption)))); first | exact upd_same _ _ _ | assumption)); refine ⟨Nat.le_of_ble_eq_true rfl, ?_⟩; conv => whnf)
  have n48 : id4 ≠ id8 := fresh_ne h8 (by (first | ((with_reducible (repeat (refine Eq.trans (upd_ne _ ?_) ?_; (first | assumption | (apply Ne.symm; assumption))))); first | exact upd_same _ _ _ | assumption) | ((repeat (refine Eq.trans (upd_ne _ ?_) ?_; (first | assumption | (apply Ne.symm; assumption)))); first | exact upd_same _ _ _ | assumption)))
  have n58 : id5 ≠ id8 := fresh_ne h8 (by (first | ((with_reducible (repeat (refine Eq.trans (upd_ne _ ?_) ?_; (first | assumption | (apply Ne.symm; assumption))))); first | exact upd_same _ _ _ | assumption) | ((repeat (refine Eq.trans (upd_ne _ ?_) ?_; (first | assumption | (apply Ne.symm; assumption)))); first | exact upd_same _ _ _ | assumption)))
  have n68 : id6 ≠ id8 := fresh_ne h8 (by (first | ((with_reducible (repeat (refine Eq.trans (upd_ne _ ?_) ?_; (first | assumption | (apply Ne.symm; assumption))))); first | exact upd_same _ _ _ | assumption) | ((repeat (refine Eq.trans (upd_ne _ ?_) ?_; (first | assumption | (apply Ne.symm; assumption)))); first | exact upd_same _ _ _ | assumption)))
  have h8' : st id8 = none := Le.none (by (first | (with_reducible (iterate 24 (try any_goals (first | exact Le.refl _ | assumption | apply Le.up2))); done) | (iterate 24 (try any_goals (first | exact Le.refl _ | assumption | apply Le.up2))))) h8
  clear h8
  refine Pw.drw TP mixed (by kernel_rfl) ?_; conv => whnf
  refine ⟨by decide, by simp [eEs]; omega, Int.le_refl _, ?_⟩
  conv => whnf
  have hv : ∀ e0 : Ex, Is Tryz.prog 51 [.g (eEnv row ps), .c (.sl 7 (((eEs (e0 :: kids)).take ((eEs (e0 :: kids)).length : Int).toNat).drop (1 : Int).toNat))] (.c (.fn 77 [.ep [.sl 7 (eEs kids)], .ep (eEnv row ps)])) := fun e0 => by
    have e : ((eEs (e0 :: kids)).take ((eEs (e0 :: kids)).length : Int).toNat).drop (1 : Int).toNat = eEs kids := by simp [eEs]
    rw [e]; exact values_is row ps kids
  refine Is.draw (hv _) ?_
  conv => whnf
  refine Pw.gen fun S hS => ?_
  have a4 : S id4 = some (.bx (eV zV)) := by rw [hS]; (first | ((with_reducible (repeat (refine Eq.trans (upd_ne _ ?_) ?_; (first | assumption | (apply Ne.symm; assumption))))); first | exact upd_same _ _ _ | assumption) | ((repeat (refine Eq.trans (upd_ne _ ?_) ?_; (first | assumption | (apply Ne.symm; assumption)))); first | exact upd_same _ _ _ | assumption))
  have a5 : S id5 = some (.bx [.v (.int .i64 0)]) := by rw [hS]; (first | ((with_reducible (repeat (refine Eq.trans (upd_ne _ ?_) ?_; (first | assumption | (apply Ne.symm; assumption))))); first | exact upd_same _ _ _ | assumption) | ((repeat (refine Eq.trans (upd_ne _ ?_) ?_; (first | assumption | (apply Ne.symm; assumption)))); first | exact upd_same _ _ _ | assumption))
  have a6 : S id6 = some (.bx (eV x)) := by rw [hS]; (first | ((with_reducible (repeat (refine Eq.trans (upd_ne _ ?_) ?_; (first | assumption | (apply Ne.symm; assumption))))); first | exact upd_same _ _ _ | assumption) | ((repeat (refine Eq.trans (upd_ne _ ?_) ?_; (first | assumption | (apply Ne.symm; assumption)))); first | exact upd_same _ _ _ | assumption))
  have a8 : S id8 = some (.bx [.v (.int .i64 0)]) := by rw [hS]; (first | ((with_reducible (repeat (refine Eq.trans (upd_ne _ ?_) ?_; (first | assumption | (apply Ne.symm; assumption))))); first | exact upd_same _ _ _ | assumption) | ((repeat (refine Eq.trans (upd_ne _ ?_) ?_; (first | assumption | (apply Ne.symm; assumption)))); first | exact upd_same _ _ _ | assumption))
  have le : Le st S := by rw [hS]; (first | (with_reducible (iterate 24 (try any_goals (first | exact Le.refl _ | assumption | apply Le.up2))); done) | (iterate 24 (try any_goals (first | exact Le.refl _ | assumption | apply Le.up2))))
  clear hS
  have htop : ein ((x, f) :: kids.map F) = einL x 0 (kids.map F) := if_neg (by dsimp only at *; omega)
  rw [htop]
  refine Pw.rangeFunc rfl (values_iter row ps F kids hl2 hk2) fun l => rounds_items rfl (fun rs s => ∃ o, s id4 = some (.bx (eV zV)) ∧ s id5 = some (.bx [.v (.int .i64 0)]) ∧ s id6 = some (.bx (eV x)) ∧ s id8 = some (.bx [.v (.int .i64 o)]) ∧ Le st s ∧ einL x 0 (kids.map F) = einL x o rs) ?_ ?_ _ _ ⟨0, a4, a5, a6, a8, le, rfl⟩
  · clear a4 a5 a6 a8 le
    rintro s ⟨o, a4, a5, a6, a8, le, hx⟩
    conv => whnf
    repeat' (first | (apply Exists.intro; apply And.intro; (first | ((with_reducible (repeat (refine Eq.trans (upd_ne _ ?_) ?_; (first | assumption | (apply Ne.symm; assumption))))); first | exact upd_same _ _ _ | assumption) | ((repeat (refine Eq.trans (upd_ne _ ?_) ?_; (first | assumption | (apply Ne.symm; assumption)))); first | exact upd_same _ _ _ | assumption)); refine ⟨Nat.le_of_ble_eq_true rfl, ?_⟩; conv => whnf) | (apply Exists.intro; apply And.intro; (first | ((with_reducible (repeat (refine Eq.trans (upd_ne _ ?_) ?_; (first | assumption | (apply Ne.symm; assumption))))); first | exact upd_same _ _ _ | assumption) | ((repeat (refine Eq.trans (upd_ne _ ?_) ?_; (first | assumption | (apply Ne.symm; assumption)))); first | exact upd_same _ _ _ | assumption)); conv => whnf) | (refine (tval_is _).call ?_; conv => whnf))
    exact Fin.ev (v := tval o) rfl (by rw [hx]; rfl) (by (first | (with_reducible (iterate 24 (try any_goals (first | exact Le.refl _ | assumption | apply Le.up2))); done) | (iterate 24 (try any_goals (first | exact Le.refl _ | assumption | apply Le.up2)))))
  · clear a4 a5 a6 a8 le
    rintro y n r s ⟨o, a4, a5, a6, a8, le, hx⟩
    refine Pw.of TP [] ?_
    conv => whnf
    refine ⟨rfl, Pw.of TP [1000008] ?_⟩
    conv => whnf
    repeat' (first | (refine ⟨fun h => ?_, fun h => ?_⟩ <;> conv => whnf) | (apply Exists.intro; apply And.intro; (first | ((with_reducible (repeat (refine Eq.trans (upd_ne _ ?_) ?_; (first | assumption | (apply Ne.symm; assumption))))); first | exact upd_same _ _ _ | assumption) | ((repeat (refine Eq.trans (upd_ne _ ?_) ?_; (first | assumption | (apply Ne.symm; assumption)))); first | exact upd_same _ _ _ | assumption)); refine ⟨Nat.le_of_ble_eq_true rfl, ?_⟩; conv => whnf) | (apply Exists.intro; apply And.intro; (first | ((with_reducible (repeat (refine Eq.trans (upd_ne _ ?_) ?_; (first | assumption | (apply Ne.symm; assumption))))); first | exact upd_same _ _ _ | assumption) | ((repeat (refine Eq.trans (upd_ne _ ?_) ?_; (first | assumption | (apply Ne.symm; assumption)))); first | exact upd_same _ _ _ | assumption)); conv => whnf) | (refine Is.callN (vcompare_is _ _ _) fun a b hab => ?_; conv => whnf) | (refine Is.callI (tor_is [o, a] (Nat.le_of_ble_eq_true rfl)) fun c hc => ?_; conv => whnf) | (refine Is.callI (tor_is [o, 0] (Nat.le_of_ble_eq_true rfl)) fun c hc => ?_; conv => whnf) | (refine (tval_is _).call ?_; conv => whnf))
    all_goals first | (exfalso; omega) | refine Fin.ev (v := zV) rfl ?_ (by (first | (with_reducible (iterate 24 (try any_goals (first | exact Le.refl _ | assumption | apply Le.up2))); done) | (iterate 24 (try any_goals (first | exact Le.refl _ | assumption | apply Le.up2))))) | refine Fin.ev (v := tval c) rfl ?_ (by (first | (with_reducible (iterate 24 (try any_goals (first | exact Le.refl _ | assumption | apply Le.up2))); done) | (iterate 24 (try any_goals (first | exact Le.refl _ | assumption | apply Le.up2))))) | refine ⟨by assumption, c, by (first | ((with_reducible (repeat (refine Eq.trans (upd_ne _ ?_) ?_; (first | assumption | (apply Ne.symm; assumption))))); first | exact upd_same _ _ _ | assumption) | ((repeat (refine Eq.trans (upd_ne _ ?_) ?_; (first | assumption | (apply Ne.symm; assumption)))); first | exact upd_same _ _ _ | assumption)), by (first | ((with_reducible (repeat (refine Eq.trans (upd_ne _ ?_) ?_; (first | assumption | (apply Ne.symm; assumption))))); first | exact upd_same _ _ _ | assumption) | ((repeat (refine Eq.trans (upd_ne _ ?_) ?_; (first | assumption | (apply Ne.symm; assumption)))); first | exact upd_same _ _ _ | assumption)), by (first | ((with_reducible (repeat (refine Eq.trans (upd_ne _ ?_) ?_; (first | assumption | (apply Ne.symm; assumption))))); first | exact upd_same _ _ _ | assumption) | ((repeat (refine Eq.trans (upd_ne _ ?_) ?_; (first | assumption | (apply Ne.symm; assumption)))); first | exact upd_same _ _ _ | assumption)), by (first | ((with_reducible (repeat (refine Eq.trans (upd_ne _ ?_) ?_; (first | assumption | (apply Ne.symm; assumption))))); first | exact upd_same _ _ _ | assumption) | ((repeat (refine Eq.trans (upd_ne _ ?_) ?_; (first | assumption | (apply Ne.symm; assumption)))); first | exact upd_same _ _ _ | assumption)), by (first | (with_reducible (iterate 24 (try any_goals (first | exact Le.refl _ | assumption | apply Le.up2))); done) | (iterate 24 (try any_goals (first | exact Le.refl _ | assumption | apply Le.up2)))), ?_⟩
    all_goals rw [hx]
    all_goals rw [einL_cons]
    all_goals clear a4 a5 a6 a8 n45 n56 n46 n48 n58 n68 h5' h6' h8' hk1 hk2 hv hx
    all_goals simp_all
end
end Go.Proofs.YtbmgenifdlgbmaaGreat.D
namespace Go.Proofs.YtbmgenifdlgbmaaGreat.D
set_option linter.unusedVariables false
set_option linter.unusedSimpArgs false
open Go Go.Proofs.YtbmgenifdlgbmaaGreat.D.Pm
set_option maxRecDepth 4000
section
variable (row ps : List Val) (k op : Int) (v : Val) (nm : ByteArray)
theorem both_is (kids : List Ex) (F : Ex → Val × Int) (hl : kids.length ≤ Big) (hk : ∀ e ∈ kids, Is Tryz.prog 14 [.g (eEnv row ps), .g (eE e)] (evR (F e))) :
    Is Tryz.prog 48 [.g (eEnv row ps), .g (eE (.mk k op v nm kids))] (evR (eboth op (kids.map F))) := by
  refine Is.of TP Tryz.func48 rfl rfl (Nat.le_of_ble_eq_true rfl) fun st => Pw.of TP [1000008] ?_
  conv => whnf
  intro id4 h4
  conv => whnf
  intro id5 h5
  conv => whnf
  have n45 : id4 ≠ id5 := fresh_ne h5 (upd_same _ _ _)
  have h5' := (Le.upd h4).none h5
  intro id6 h6
  conv => whnf
  have n56 : id5 ≠ id6 := fresh_ne h6 (by (first | ((with_reducible (repeat (refine Eq.trans (upd_ne _ ?_) ?_; (first | assumption | (apply Ne.symm; assumption))))); first | exact upd_same _ _ _ | assumption) | ((repeat (refine Eq.trans (upd_ne _ ?_) ?_; (first | assumption | (apply Ne.symm; assumption)))); first | exact upd_same _ _ _ | assumption)))
  have n46 : id4 ≠ id6 := fresh_ne h6 (by (first | ((with_reducible (repeat (refine Eq.trans (upd_ne _ ?_) ?_; (first | assumption | (apply Ne.symm; assumption))))); first | exact upd_same _ _ _ | assumption) | ((repeat (refine Eq.trans (upd_ne _ ?_) ?_; (first | assumption | (apply Ne.symm; assumption)))); first | exact upd_same _ _ _ | assumption)))
  have h6' : st id6 = none := Le.none (by (first | (with_reducible (iterate 24 (try any_goals (first | exact Le.refl _ | assumption | apply Le.up2))); done) | (iterate 24 (try any_goals (first | exact Le.refl _ | assumption | apply Le.up2))))) h6
  intro id7 h7
  conv => whnf
  have n47 : id4 ≠ id7 := fresh_ne h7 (by (first | ((with_reducible (repeat (refine Eq.trans (upd_ne _ ?_) ?_; (first | assumption | (apply Ne.symm; assumption))))); first | exact upd_same _ _ _ | assumption) | ((repeat (refine Eq.trans (upd_ne _ ?_) ?_; (first | assumption | (apply Ne.symm; assumption)))); first | exact upd_same _ _ _ | assumption)))
  have n57 : id5 ≠ id7 := fresh_ne h7 (by (first | ((with_reducible (repeat (refine Eq.trans (upd_ne _ ?_) ?_; (first | assumption | (apply Ne.symm; assumption))))); first | exact upd_same _ _ _ | assumption) | ((repeat (refine Eq.trans (upd_ne _ ?_) ?_; (first | assumption | (apply Ne.symm; assumption)))); first | exact upd_same _ _ _ | assumption)))
  have n67 : id6 ≠ id7 := fresh_ne h7 (by (first | ((with_reducible (repeat (refine Eq.trans (upd_ne _ ?_) ?_; (first | assumption | (apply Ne.symm; assumption))))); first | exact upd_same _ _ _ | assumption) | ((repeat (refine Eq.trans (upd_ne _ ?_) ?_; (first | assumption | (apply Ne.symm; assumption)))); first | exact upd_same _ _ _ | assumption)))
  have h7' : st id7 = none := Le.none (by (first | (with_reducible (iterate 24 (try any_goals (first | exact Le.refl _ | assumption | apply Le.up2))); done) | (iterate 24 (try any_goals (first | exact Le.refl _ | assumption | apply Le.up2))))) h7
  clear h5 h6 h7
  (apply Exists.intro; apply And.intro; (first | ((with_reducible (repeat (refine Eq.trans (upd_ne _ ?_) ?_; (first | assumption | (apply Ne.symm; assumption))))); first | exact upd_same _ _ _ | assumption) | ((repeat (refine Eq.trans (upd_ne _ ?_) ?_; (first | assumption | (apply Ne.symm; assumption)))); first | exact upd_same _ _ _ | assumption)); refine ⟨Nat.le_of_ble_eq_true rfl, ?_⟩; conv => whnf)
  (apply Exists.intro; apply And.intro; (first | ((with_reducible (repeat (refine Eq.trans (upd_ne _ ?_) ?_; (first | assumption | (apply Ne.symm; assumption))))); first | exact upd_same _ _ _ | assumption) | ((repeat (refine Eq.trans (upd_ne _ ?_) ?_; (first | assumption | (apply Ne.symm; assumption)))); first | exact upd_same _ _ _ | assumption)); refine ⟨Nat.le_of_ble_eq_true rfl, ?_⟩; conv => whnf)
  refine ⟨fun h => ?_, fun h => ?_⟩ <;> conv => whnf
  · (apply Exists.intro; apply And.intro; (first | ((with_reducible (repeat (refine Eq.trans (upd_ne _ ?_) ?_; (first | assumption | (apply Ne.symm; assumption))))); first | exact upd_same _ _ _ | assumption) | ((repeat (refine Eq.trans (upd_ne _ ?_) ?_; (first | assumption | (apply Ne.symm; assumption)))); first | exact upd_same _ _ _ | assumption)); refine ⟨Nat.le_of_ble_eq_true rfl, ?_⟩; conv => whnf)
    (apply Exists.intro; apply And.intro; (first | ((with_reducible (repeat (refine Eq.trans (upd_ne _ ?_) ?_; (first | assumption | (apply Ne.symm; assumption))))); first | exact upd_same _ _ _ | assumption) | ((repeat (refine Eq.trans (upd_ne _ ?_) ?_; (first | assumption | (apply Ne.symm; assumption)))); first | exact upd_same _ _ _ | assumption)); refine ⟨Nat.le_of_ble_eq_true rfl, ?_⟩; conv => whnf)
    (apply Exists.intro; apply And.intro; (first | ((with_reducible (repeat (refine Eq.trans (upd_ne _ ?_) ?_; (first | assumption | (apply Ne.symm; assumption))))); first | exact upd_same _ _ _ | assumption) | ((repeat (refine Eq.trans (upd_ne _ ?_) ?_; (first | assumption | (apply Ne.symm; assumption)))); first | exact upd_same _ _ _ | assumption)); conv => whnf)
    refine Is.callI (tnot_is _) fun t0 ht0 => ?_
    conv => whnf
    intro id8 h8
    conv => whnf
    (apply Exists.intro; apply And.intro; (first | ((with_reducible (repeat (refine Eq.trans (upd_ne _ ?_) ?_; (first | assumption | (apply Ne.symm; assumption))))); first | exact upd_same _ _ _ | assumption) | ((repeat (refine Eq.trans (upd_ne _ ?_) ?_; (first | assumption | (apply Ne.symm; assumption)))); first | exact upd_same _ _ _ | assumption)); refine ⟨Nat.le_of_ble_eq_true rfl, ?_⟩; conv => whnf)
    have n48 : id4 ≠ id8 := fresh_ne h8 (by (first | ((with_reducible (repeat (refine Eq.trans (upd_ne _ ?_) ?_; (first | assumption | (apply Ne.symm; assumption))))); first | exact upd_same _ _ _ | assumption) | ((repeat (refine Eq.trans (upd_ne _ ?_) ?_; (first | assumption | (apply Ne.symm; assumption)))); first | exact upd_same _ _ _ | assumption)))
    have n58 : id5 ≠ id8 := fresh_ne h8 (by (first | ((with_reducible (repeat (refine Eq.trans (upd_ne _ ?_) ?_; (first | assumption | (apply Ne.symm; assumption))))); first | exact upd_same _ _ _ | assumption) | ((repeat (refine Eq.trans (upd_ne _ ?_) ?_; (first | assumption | (apply Ne.symm; assumption)))); first | exact upd_same _ _ _ | assumption)))
    have n68 : id6 ≠ id8 := fresh_ne h8 (by (first | ((with_reducible (repeat (refine Eq.trans (upd_ne _ ?_) ?_; (first | assumption | (apply Ne.symm; assumption))))); first | exact upd_same _ _ _ | assumption) | ((repeat (refine Eq.trans (upd_ne _ ?_) ?_; (first | assumption | (apply Ne.symm; assumption)))); first | exact upd_same _ _ _ | assumption)))
    have n78 : id7 ≠ id8 := fresh_ne h8 (by (first | ((with_reducible (repeat (refine Eq.trans (upd_ne _ ?_) ?_; (first | assumption | (apply Ne.symm; assumption))))); first | exact upd_same _ _ _ | assumption) | ((repeat (refine Eq.trans (upd_ne _ ?_) ?_; (first | assumption | (apply Ne.symm; assumption)))); first | exact upd_same _ _ _ | assumption)))
    have h8' : st id8 = none := Le.none (by (first | (with_reducible (iterate 24 (try any_goals (first | exact Le.refl _ | assumption | apply Le.up2))); done) | (iterate 24 (try any_goals (first | exact Le.refl _ | assumption | apply Le.up2))))) h8
    clear h8
    refine Is.call (values_is row ps kids) ?_
    conv => whnf
    refine Pw.gen fun S hS => ?_
    have a4 : S id4 = some (.bx (eV zV)) := by rw [hS]; (first | ((with_reducible (repeat (refine Eq.trans (upd_ne _ ?_) ?_; (first | assumption | (apply Ne.symm; assumption))))); first | exact upd_same _ _ _ | assumption) | ((repeat (refine Eq.trans (upd_ne _ ?_) ?_; (first | assumption | (apply Ne.symm; assumption)))); first | exact upd_same _ _ _ | assumption))
    have a5 : S id5 = some (.bx [.v (.int .i64 0)]) := by rw [hS]; (first | ((with_reducible (repeat (refine Eq.trans (upd_ne _ ?_) ?_; (first | assumption | (apply Ne.symm; assumption))))); first | exact upd_same _ _ _ | assumption) | ((repeat (refine Eq.trans (upd_ne _ ?_) ?_; (first | assumption | (apply Ne.symm; assumption)))); first | exact upd_same _ _ _ | assumption))
    have a6 : S id6 = some (.bx [.v (.int .i64 1)]) := by rw [hS]; (first | ((with_reducible (repeat (refine Eq.trans (upd_ne _ ?_) ?_; (first | assumption | (apply Ne.symm; assumption))))); first | exact upd_same _ _ _ | assumption) | ((repeat (refine Eq.trans (upd_ne _ ?_) ?_; (first | assumption | (apply Ne.symm; assumption)))); first | exact upd_same _ _ _ | assumption))
    have a7 : S id7 = some (.bx [.fn 52 []]) := by rw [hS]; (first | ((with_reducible (repeat (refine Eq.trans (upd_ne _ ?_) ?_; (first | assumption | (apply Ne.symm; assumption))))); first | exact upd_same _ _ _ | assumption) | ((repeat (refine Eq.trans (upd_ne _ ?_) ?_; (first | assumption | (apply Ne.symm; assumption)))); first | exact upd_same _ _ _ | assumption))
    have a8 : S id8 = some (.bx [.v (.int .i64 t0)]) := by rw [hS]; (first | ((with_reducible (repeat (refine Eq.trans (upd_ne _ ?_) ?_; (first | assumption | (apply Ne.symm; assumption))))); first | exact upd_same _ _ _ | assumption) | ((repeat (refine Eq.trans (upd_ne _ ?_) ?_; (first | assumption | (apply Ne.symm; assumption)))); first | exact upd_same _ _ _ | assumption))
    have le : Le st S := by rw [hS]; (first | (with_reducible (iterate 24 (try any_goals (first | exact Le.refl _ | assumption | apply Le.up2))); done) | (iterate 24 (try any_goals (first | exact Le.refl _ | assumption | apply Le.up2))))
    clear hS
    have htop : eboth op (kids.map F) = ebothL 1 t0 (kids.map F) := by unfold eboth; rw [if_pos h, ht0]
    rw [htop]
    refine Pw.rangeFunc rfl (values_iter row ps F kids hl hk) fun l => rounds_items rfl (fun rs s => ∃ o, s id4 = some (.bx (eV zV)) ∧ s id5 = some (.bx [.v (.int .i64 0)]) ∧ s id6 = some (.bx [.v (.int .i64 1)]) ∧ s id7 = some (.bx [.fn 52 []]) ∧ s id8 = some (.bx [.v (.int .i64 o)]) ∧ Le st s ∧ ebothL 1 t0 (kids.map F) = ebothL 1 o rs) ?_ ?_ _ _ ⟨t0, a4, a5, a6, a7, a8, le, rfl⟩
    · clear a4 a5 a6 a7 a8 le
      rintro s ⟨o, a4, a5, a6, a7, a8, le, hx⟩
      conv => whnf
      repeat' (first | (apply Exists.intro; apply And.intro; (first | ((with_reducible (repeat (refine Eq.trans (upd_ne _ ?_) ?_; (first | assumption | (apply Ne.symm; assumption))))); first | exact upd_same _ _ _ | assumption) | ((repeat (refine Eq.trans (upd_ne _ ?_) ?_; (first | assumption | (apply Ne.symm; assumption)))); first | exact upd_same _ _ _ | assumption)); refine ⟨Nat.le_of_ble_eq_true rfl, ?_⟩; conv => whnf) | (apply Exists.intro; apply And.intro; (first | ((with_reducible (repeat (refine Eq.trans (upd_ne _ ?_) ?_; (first | assumption | (apply Ne.symm; assumption))))); first | exact upd_same _ _ _ | assumption) | ((repeat (refine Eq.trans (upd_ne _ ?_) ?_; (first | assumption | (apply Ne.symm; assumption)))); first | exact upd_same _ _ _ | assumption)); conv => whnf) | (refine (tval_is _).call ?_; conv => whnf))
      exact Fin.ev (v := tval o) rfl (by rw [hx]; rfl) (by (first | (with_reducible (iterate 24 (try any_goals (first | exact Le.refl _ | assumption | apply Le.up2))); done) | (iterate 24 (try any_goals (first | exact Le.refl _ | assumption | apply Le.up2)))))
    · clear a4 a5 a6 a7 a8 le
      rintro y n r s ⟨o, a4, a5, a6, a7, a8, le, hx⟩
      refine Pw.of TP [] ?_
      conv => whnf
      refine ⟨rfl, Pw.of TP [1000008] ?_⟩
      conv => whnf
      repeat' (first | (refine ⟨fun h => ?_, fun h => ?_⟩ <;> conv => whnf) | (apply Exists.intro; apply And.intro; (first | ((with_reducible (repeat (refine Eq.trans (upd_ne _ ?_) ?_; (first | assumption | (apply Ne.symm; assumption))))); first | exact upd_same _ _ _ | assumption) | ((repeat (refine Eq.trans (upd_ne _ ?_) ?_; (first | assumption | (apply Ne.symm; assumption)))); first | exact upd_same _ _ _ | assumption)); refine ⟨Nat.le_of_ble_eq_true rfl, ?_⟩; conv => whnf) | (apply Exists.intro; apply And.intro; (first | ((with_reducible (repeat (refine Eq.trans (upd_ne _ ?_) ?_; (first | assumption | (apply Ne.symm; assumption))))); first | exact upd_same _ _ _ | assumption) | ((repeat (refine Eq.trans (upd_ne _ ?_) ?_; (first | assumption | (apply Ne.symm; assumption)))); first | exact upd_same _ _ _ | assumption)); conv => whnf) | (refine Is.callN (tof_is _) fun a b hab => ?_; conv => whnf) | (refine Is.callI (tor_is [o, a] (Nat.le_of_ble_eq_true rfl)) fun c hc => ?_; conv => whnf) | (refine Is.callI (tor_is [o, 0] (Nat.le_of_ble_eq_true rfl)) fun c hc => ?_; conv => whnf) | (refine (tval_is _).call ?_; conv => whnf))
      all_goals first | (exfalso; omega) | refine Fin.ev (v := zV) rfl ?_ (by (first | (with_reducible (iterate 24 (try any_goals (first | exact Le.refl _ | assumption | apply Le.up2))); done) | (iterate 24 (try any_goals (first | exact Le.refl _ | assumption | apply Le.up2))))) | refine Fin.ev (v := tval c) rfl ?_ (by (first | (with_reducible (iterate 24 (try any_goals (first | exact Le.refl _ | assumption | apply Le.up2))); done) | (iterate 24 (try any_goals (first | exact Le.refl _ | assumption | apply Le.up2))))) | refine ⟨by assumption, c, by (first | ((with_reducible (repeat (refine Eq.trans (upd_ne _ ?_) ?_; (first | assumption | (apply Ne.symm; assumption))))); first | exact upd_same _ _ _ | assumption) | ((repeat (refine Eq.trans (upd_ne _ ?_) ?_; (first | assumption | (apply Ne.symm; assumption)))); first | exact upd_same _ _ _ | assumption)), by (first | ((with_reducible (repeat (refine Eq.trans (upd_ne _ ?_) ?_; (first | assumption | (apply Ne.symm; assumption))))); first | exact upd_same _ _ _ | assumption) | ((repeat (refine Eq.trans (upd_ne _ ?_) ?_; (first | assumption | (apply Ne.symm; assumption)))); first | exact upd_same _ _ _ | assumption)), by (first | ((with_reducible (repeat (refine Eq.trans (upd_ne _ ?_) ?_; (first | assumption | (apply Ne.symm; assumption))))); first | exact upd_same _ _ _ | assumption) | ((repeat (refine Eq.trans (upd_ne _ ?_) ?_; (first | assumption | (apply Ne.symm; assumption)))); first | exact upd_same _ _ _ | assumption)), by (first | ((with_reducible (repeat (refine Eq.trans (upd_ne _ ?_) ?_; (first | assumption | (apply Ne.symm; assumption))))); first | exact upd_same _ _ _ | assumption) | ((repeat (refine Eq.trans (upd_ne _ ?_) ?_; (first | assumption | (apply Ne.symm; assumption)))); first | exact upd_same _ _ _ | assumption)), by (first | ((with_reducible (repeat (refine Eq.trans (upd_ne _ ?_) ?_; (first | assumption | (apply Ne.symm; assumption))))); first | exact upd_same _ _ _ | assumption) | ((repeat (refine Eq.trans (upd_ne _ ?_) ?_; (first | assumption | (apply Ne.symm; assumption)))); first | exact upd_same _ _ _ | assumption)), by (first | (with_reducible (iterate 24 (try any_goals (first | exact Le.refl _ | assumption | apply Le.up2))); done) | (iterate 24 (try any_goals (first | exact Le.refl _ | assumption | apply Le.up2)))), ?_⟩
      all_goals rw [hx]
      all_goals rw [ebothL_cons]
      all_goals clear a4 a5 a6 a7 a8 n45 n56 n46 n47 n48 n57 n58 n67 n68 n78 h5' h6' h7' h8' hk hx htop
      all_goals simp_all
  · (apply Exists.intro; apply And.intro; (first | ((with_reducible (repeat (refine Eq.trans (upd_ne _ ?_) ?_; (first | assumption | (apply Ne.symm; assumption))))); first | exact upd_same _ _ _ | assumption) | ((repeat (refine Eq.trans (upd_ne _ ?_) ?_; (first | assumption | (apply Ne.symm; assumption)))); first | exact upd_same _ _ _ | assumption)); conv => whnf)
    refine Is.callI (tnot_is _) fun t0 ht0 => ?_
    conv => whnf
    intro id8 h8
    conv => whnf
    (apply Exists.intro; apply And.intro; (first | ((with_reducible (repeat (refine Eq.trans (upd_ne _ ?_) ?_; (first | assumption | (apply Ne.symm; assumption))))); first | exact upd_same _ _ _ | assumption) | ((repeat (refine Eq.trans (upd_ne _ ?_) ?_; (first | assumption | (apply Ne.symm; assumption)))); first | exact upd_same _ _ _ | assumption)); refine ⟨Nat.le_of_ble_eq_true rfl, ?_⟩; conv => whnf)
    have n48 : id4 ≠ id8 := fresh_ne h8 (by (first | ((with_reducible (repeat (refine Eq.trans (upd_ne _ ?_) ?_; (first | assumption | (apply Ne.symm; assumption))))); first | exact upd_same _ _ _ | assumption) | ((repeat (refine Eq.trans (upd_ne _ ?_) ?_; (first | assumption | (apply Ne.symm; assumption)))); first | exact upd_same _ _ _ | assumption)))
    have n58 : id5 ≠ id8 := fresh_ne h8 (by (first | ((with_reducible (repeat (refine Eq.trans (upd_ne _ ?_) ?_; (first | assumption | (apply Ne.symm; assumption))))); first | exact upd_same _ _ _ | assumption) | ((repeat (refine Eq.trans (upd_ne _ ?_) ?_; (first | assumption | (apply Ne.symm; assumption)))); first | exact upd_same _ _ _ | assumption)))
    have n68 : id6 ≠ id8 := fresh_ne h8 (by (first | ((with_reducible (repeat (refine Eq.trans (upd_ne _ ?_) ?_; (first | assumption | (apply Ne.symm; assumption))))); first | exact upd_same _ _ _ | assumption) | ((repeat (refine Eq.trans (upd_ne _ ?_) ?_; (first | assumption | (apply Ne.symm; assumption)))); first | exact upd_same _ _ _ | assumption)))
    have n78 : id7 ≠ id8 := fresh_ne h8 (by (first | ((with_reducible (repeat (refine Eq.trans (upd_ne _ ?_) ?_; (first | assumption | (apply Ne.symm; assumption))))); first | exact upd_same _ _ _ | assumption) | ((repeat (refine Eq.trans (upd_ne _ ?_) ?_; (first | assumption | (apply Ne.symm; assumption)))); first | exact upd_same _ _ _ | assumption)))
    have h8' : st id8 = none := Le.none (by (first | (with_reducible (iterate 24 (try any_goals (first | exact Le.refl _ | assumption | apply Le.up2))); done) | (iterate 24 (try any_goals (first | exact Le.refl _ | assumption | apply Le.up2))))) h8
    clear h8
    refine Is.call (values_is row ps kids) ?_
    conv => whnf
    refine Pw.gen fun S hS => ?_
    have a4 : S id4 = some (.bx (eV zV)) := by rw [hS]; (first | ((with_reducible (repeat (refine Eq.trans (upd_ne _ ?_) ?_; (first | assumption | (apply Ne.symm; assumption))))); first | exact upd_same _ _ _ | assumption) | ((repeat (refine Eq.trans (upd_ne _ ?_) ?_; (first | assumption | (apply Ne.symm; assumption)))); first | exact upd_same _ _ _ | assumption))
    have a5 : S id5 = some (.bx [.v (.int .i64 0)]) := by rw [hS]; (first | ((with_reducible (repeat (refine Eq.trans (upd_ne _ ?_) ?_; (first | assumption | (apply Ne.symm; assumption))))); first | exact upd_same _ _ _ | assumption) | ((repeat (refine Eq.trans (upd_ne _ ?_) ?_; (first | assumption | (apply Ne.symm; assumption)))); first | exact upd_same _ _ _ | assumption))
    have a6 : S id6 = some (.bx [.v (.int .i64 0)]) := by rw [hS]; (first | ((with_reducible (repeat (refine Eq.trans (upd_ne _ ?_) ?_; (first | assumption | (apply Ne.symm; assumption))))); first | exact upd_same _ _ _ | assumption) | ((repeat (refine Eq.trans (upd_ne _ ?_) ?_; (first | assumption | (apply Ne.symm; assumption)))); first | exact upd_same _ _ _ | assumption))
    have a7 : S id7 = some (.bx [.fn 72 []]) := by rw [hS]; (first | ((with_reducible (repeat (refine Eq.trans (upd_ne _ ?_) ?_; (first | assumption | (apply Ne.symm; assumption))))); first | exact upd_same _ _ _ | assumption) | ((repeat (refine Eq.trans (upd_ne _ ?_) ?_; (first | assumption | (apply Ne.symm; assumption)))); first | exact upd_same _ _ _ | assumption))
    have a8 : S id8 = some (.bx [.v (.int .i64 t0)]) := by rw [hS]; (first | ((with_reducible (repeat (refine Eq.trans (upd_ne _ ?_) ?_; (first | assumption | (apply Ne.symm; assumption))))); first | exact upd_same _ _ _ | assumption) | ((repeat (refine Eq.trans (upd_ne _ ?_) ?_; (first | assumption | (apply Ne.symm; assumption)))); first | exact upd_same _ _ _ | assumption))
    have le : Le st S := by rw [hS]; (first | (with_reducible (iterate 24 (try any_goals (first | exact Le.refl _ | assumption | apply Le.up2))); done) | (iterate 24 (try any_goals (first | exact Le.refl _ | assumption | apply Le.up2))))
    clear hS
    have htop : eboth op (kids.map F) = ebothL 0 t0 (kids.map F) := by unfold eboth; rw [if_neg h, ht0]
    rw [htop]
    refine Pw.rangeFunc rfl (values_iter row ps F kids hl hk) fun l => rounds_items rfl (fun rs s => ∃ o, s id4 = some (.bx (eV zV)) ∧ s id5 = some (.bx [.v (.int .i64 0)]) ∧ s id6 = some (.bx [.v (.int .i64 0)]) ∧ s id7 = some (.bx [.fn 72 []]) ∧ s id8 = some (.bx [.v (.int .i64 o)]) ∧ Le st s ∧ ebothL 0 t0 (kids.map F) = ebothL 0 o rs) ?_ ?_ _ _ ⟨t0, a4, a5, a6, a7, a8, le, rfl⟩
    · clear a4 a5 a6 a7 a8 le
      rintro s ⟨o, a4, a5, a6, a7, a8, le, hx⟩
      conv => whnf
      repeat' (first | (apply Exists.intro; apply And.intro; (first | ((with_reducible (repeat (refine Eq.trans (upd_ne _ ?_) ?_; (first | assumption | (apply Ne.symm; assumption))))); first | exact upd_same _ _ _ | assumption) | ((repeat (refine Eq.trans (upd_ne _ ?_) ?_; (first | assumption | (apply Ne.symm; assumption)))); first | exact upd_same _ _ _ | assumption)); refine ⟨Nat.le_of_ble_eq_true rfl, ?_⟩; conv => whnf) | (apply Exists.intro; apply And.intro; (first | ((with_reducible (repeat (refine Eq.trans (upd_ne _ ?_) ?_; (first | assumption | (apply Ne.symm; assumption))))); first | exact upd_same _ _ _ | assumption) | ((repeat (refine Eq.trans (upd_ne _ ?_) ?_; (first | assumption | (apply Ne.symm; assumption)))); first | exact upd_same _ _ _ | assumption)); conv => whnf) | (refine (tval_is _).call ?_; conv => whnf))
      exact Fin.ev (v := tval o) rfl (by rw [hx]; rfl) (by (first | (with_reducible (iterate 24 (try any_goals (first | exact Le.refl _ | assumption | apply Le.up2))); done) | (iterate 24 (try any_goals (first | exact Le.refl _ | assumption | apply Le.up2)))))
    · clear a4 a5 a6 a7 a8 le
      rintro y n r s ⟨o, a4, a5, a6, a7, a8, le, hx⟩
      refine Pw.of TP [] ?_
      conv => whnf
      refine ⟨rfl, Pw.of TP [1000008] ?_⟩
      conv => whnf
      repeat' (first | (refine ⟨fun h => ?_, fun h => ?_⟩ <;> conv => whnf) | (apply Exists.intro; apply And.intro; (first | ((with_reducible (repeat (refine Eq.trans (upd_ne _ ?_) ?_; (first | assumption | (apply Ne.symm; assumption))))); first | exact upd_same _ _ _ | assumption) | ((repeat (refine Eq.trans (upd_ne _ ?_) ?_; (first | assumption | (apply Ne.symm; assumption)))); first | exact upd_same _ _ _ | assumption)); refine ⟨Nat.le_of_ble_eq_true rfl, ?_⟩; conv => whnf) | (apply Exists.intro; apply And.intro; (first | ((with_reducible (repeat (refine Eq.trans (upd_ne _ ?_) ?_; (first | assumption | (apply Ne.symm; assumption))))); first | exact upd_same _ _ _ | assumption) | ((repeat (refine Eq.trans (upd_ne _ ?_) ?_; (first | assumption | (apply Ne.symm; assumption)))); first | exact upd_same _ _ _ | assumption)); conv => whnf) | (refine Is.callN (tof_is _) fun a b hab => ?_; conv => whnf) | (refine Is.callI (tand_is [o, a] (Nat.le_of_ble_eq_true rfl)) fun c hc => ?_; conv => whnf) | (refine Is.callI (tand_is [o, 0] (Nat.le_of_ble_eq_true rfl)) fun c hc => ?_; conv => whnf) | (refine (tval_is _).call ?_; conv => whnf))
      all_goals first | (exfalso; omega) | refine Fin.ev (v := zV) rfl ?_ (by (first | (with_reducible (iterate 24 (try any_goals (first | exact Le.refl _ | assumption | apply Le.up2))); done) | (iterate 24 (try any_goals (first | exact Le.refl _ | assumption | apply Le.up2))))) | refine Fin.ev (v := tval c) rfl ?_ (by (first | (with_reducible (iterate 24 (try any_goals (first | exact Le.refl _ | assumption | apply Le.up2))); done) | (iterate 24 (try any_goals (first | exact Le.refl _ | assumption | apply Le.up2))))) | refine ⟨by assumption, c, by (first | ((with_reducible (repeat (refine Eq.trans (upd_ne _ ?_) ?_; (first | assumption | (apply Ne.symm; assumption))))); first | exact upd_same _ _ _ | assumption) | ((repeat (refine Eq.trans (upd_ne _ ?_) ?_; (first | assumption | (apply Ne.symm; assumption)))); first | exact upd_same _ _ _ | assumption)), by (first | ((with_reducible (repeat (refine Eq.trans (upd_ne _ ?_) ?_; (first | assumption | (apply Ne.symm; assumption))))); first | exact upd_same _ _ _ | assumption) | ((repeat (refine Eq.trans (upd_ne _ ?_) ?_; (first | assumption | (apply Ne.symm; assumption)))); first | exact upd_same _ _ _ | assumption)), by (first | ((with_reducible (repeat (refine Eq.trans (upd_ne _ ?_) ?_; (first | assumption | (apply Ne.symm; assumption))))); first | exact upd_same _ _ _ | assumption) | ((repeat (refine Eq.trans (upd_ne _ ?_) ?_; (first | assumption | (apply Ne.symm; assumption)))); first | exact upd_same _ _ _ | assumption)), by (first | ((with_reducible (repeat (refine Eq.trans (upd_ne _ ?_) ?_; (first | assumption | (apply Ne.symm; assumption))))); first | exact upd_same _ _ _ | assumption) | ((repeat (refine Eq.trans (upd_ne _ ?_) ?_; (first | assumption | (apply Ne.symm; assumption)))); first | exact upd_same _ _ _ | assumption)), by (first | ((with_reducible (repeat (refine Eq.trans (upd_ne _ ?_) ?_; (first | assumption | (apply Ne.symm; assumption))))); first | exact upd_same _ _ _ | assumption) | ((repeat (refine Eq.trans (upd_ne _ ?_) ?_; (first | assumption | (apply Ne.symm; assumption)))); first | exact upd_same _ _ _ | assumption)), by (first | (with_reducible (iterate 24 (try any_goals (first | exact Le.refl _ | assumption | apply Le.up2))); done) | (iterate 24 (try any_goals (first | exact Le.refl _ | assumption | apply Le.up2)))), ?_⟩
      all_goals rw [hx]
      all_goals rw [ebothL_cons]
      all_goals clear a4 a5 a6 a7 a8 n45 n56 n46 n47 n48 n57 n58 n67 n68 n78 h5' h6' h7' h8' hk hx htop
      all_goals simp_all
end
end Go.Proofs.YtbmgenifdlgbmaaGreat.D
