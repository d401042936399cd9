/- Words and contracts: a plain machine over the model, and what the functions that a law reaches come to, each for every input that its theorem names. -/
import Derived.Test.YtgbdhakkgnmeoaaGreatK2
import Derived.Test.YtgbdhakkgnmeoaaGreatK1
namespace Go.Proofs.YtgbdhakkgnmeoaaGreat.D
set_option linter.unusedVariables false
set_option linter.unusedSimpArgs false
open Go Go.Proofs.YtgbdhakkgnmeoaaGreat.D.Pm
set_option maxRecDepth 4000
/-! ### statements -/
structure SetX where
  name : ByteArray
  e : Ex
structure OrdX where
  e : Ex
  desc : Bool
inductive St where
  | mk (k : Int) (tb nm rl : ByteArray) (cols : List Cl) (cons : List Con) (ns : List ByteArray) (rows : List (List Ex)) (wh : Ex) (sets : List SetX) (ord : List OrdX) (lim pr : Int) (op : Bool) (kids : List St)
def eSet (x : SetX) : List AC := .v (.string x.name) :: eE x.e
def eOrd (x : OrdX) : List AC := eE x.e ++ [.v (.bool x.desc)]
def eRow (r : List Ex) : List AC := [.sl 7 (eEs r)]
mutual
def eSt : St → List AC
  | .mk k tb nm rl cols cons ns rows wh sets ord lim pr op kids => .v (.int .i64 k) :: .v (.string tb) :: .v (.string nm) :: .v (.string rl) :: .sl 3 (cols.map eCl) :: .sl 12 (cons.map eCon) :: eS ns :: .sl 1 (rows.map eRow) ::
      (eE wh ++ [.sl 8 (sets.map eSet), .sl 8 (ord.map eOrd), .v (.int .i64 lim), .v (.int .i64 pr), .v (.bool op), .sl 21 (eSts kids)])
def eSts : List St → List (List AC)
  | [] => []
  | s :: l => eSt s :: eSts l
end
theorem eSts_map : ∀ l, eSts l = l.map eSt
  | [] => rfl
  | s :: l => by rw [eSts, eSts_map l, List.map_cons]
mutual
theorem St.ind {Q : St → Prop} (h : ∀ k tb nm rl cols cons ns rows wh sets ord lim pr op kids, (∀ e ∈ kids, Q e) → Q (.mk k tb nm rl cols cons ns rows wh sets ord lim pr op kids)) : ∀ e, Q e
  | .mk k tb nm rl cols cons ns rows wh sets ord lim pr op kids => h k tb nm rl cols cons ns rows wh sets ord lim pr op kids (St.inds h kids)
theorem St.inds {Q : St → Prop} (h : ∀ k tb nm rl cols cons ns rows wh sets ord lim pr op kids, (∀ e ∈ kids, Q e) → Q (.mk k tb nm rl cols cons ns rows wh sets ord lim pr op kids)) : ∀ l : List St, ∀ e ∈ l, Q e
  | [] => fun e he => by cases he
  | a :: l => fun e he => (List.mem_cons.1 he).elim (fun h1 => h1 ▸ St.ind h a) (fun h1 => St.inds h l e h1)
end
mutual
def okSt : St → Prop
  | .mk _ _ _ _ cols cons ns rows wh sets ord _ _ _ kids => cols.length ≤ 12 ∧ (cons.length ≤ 12 ∧ ∀ x ∈ cons, okC x) ∧ ns.length ≤ 12 ∧ (rows.length ≤ 12 ∧ ∀ r ∈ rows, r.length ≤ 12 ∧ ∀ e ∈ r, okE e) ∧ okE wh ∧ (sets.length ≤ 12 ∧ ∀ x ∈ sets, okE x.e) ∧ (ord.length ≤ 12 ∧ ∀ x ∈ ord, okE x.e) ∧ kids.length ≤ 12 ∧ okSts kids
def okSts : List St → Prop
  | [] => True
  | s :: l => okSt s ∧ okSts l
end
theorem okSts_all : ∀ {l}, okSts l → ∀ e ∈ l, okSt e
  | a :: l, h, e, he => by
    rcases List.mem_cons.1 he with rfl | he
    · exact h.1
    · exact okSts_all h.2 e he
def eqSet (x y : SetX) : Bool := decide (x.name = y.name) && eqE x.e y.e
def eqOrd (x y : OrdX) : Bool := decide (x.desc = y.desc) && eqE x.e y.e
mutual
def eqSt : St → St → Bool
  | .mk k tb nm rl cols cons ns rows wh sets ord lim pr op kids, .mk k' tb' nm' rl' cols' cons' ns' rows' wh' sets' ord' lim' pr' op' kids' =>
    decide (k = k') && (decide (tb = tb') && (decide (nm = nm') && (decide (rl = rl') && (decide (lim = lim') && (decide (pr = pr') && (decide (op = op') && (eqL eqCl cols cols' && (eqL eqStr ns ns' && (eqL eqCon cons cons' && (eqL (eqL eqE) rows rows' && (eqE wh wh' && (eqL eqSet sets sets' && (eqL eqOrd ord ord' && eqSts kids kids')))))))))))))
def eqSts : List St → List St → Bool
  | [], [] => true
  | a :: l, b :: m => eqSt a b && eqSts l m
  | [], _ :: _ => false
  | _ :: _, [] => false
end
theorem eqSts_eq : ∀ l m, eqSts l m = eqL eqSt l m
  | [], [] => rfl
  | a :: l, b :: m => by rw [eqSts, eqL, eqSts_eq l m]
  | [], _ :: _ => rfl
  | _ :: _, [] => rfl
theorem eqCon_refl (x : Con) : eqCon x x = true := by
  have hs : ∀ l : List ByteArray, eqL eqStr l l = true := fun l => eqL_refl fun x _ => by simp [eqStr]
  unfold eqCon; rw [hs, hs, eqE_refl]; simp
theorem eqSt_refl : ∀ s, eqSt s s = true := by
  refine St.ind fun k tb nm rl cols cons ns rows wh sets ord lim pr op kids ih => ?_
  rw [eqSt, eqSts_eq, eqL_refl (fun c _ => by simp [eqCl]), eqL_refl (fun x _ => by simp [eqStr]), eqL_refl (fun x _ => eqCon_refl x), eqL_refl (fun x _ => eqL_refl fun e _ => eqE_refl e), eqE_refl, eqL_refl (fun x _ => by simp [eqSet, eqE_refl]), eqL_refl (fun x _ => by simp [eqOrd, eqE_refl]), eqL_refl ih]
  simp
theorem eqfSet_is (l m : List SetX) (hl : l.length ≤ Big) (g : Nat) (caps : List AC) (f : SetX → SetX → Bool) (hf : ∀ e ∈ l, ∀ e' ∈ m, Is Tryz.prog g (.g (eSet e) :: .g (eSet e') :: caps.map .c) (vB (f e e'))) :
    Is Tryz.prog 23 [.c (.sl 8 (l.map eSet)), .c (.sl 8 (m.map eSet)), .c (.fn g caps)] (vB (eqL f l m)) := by
  have e1 : (l.map eSet).length = l.length := List.length_map ..
  have e2 : (m.map eSet).length = m.length := List.length_map ..
  refine Is.of TP Tryz.func23 rfl rfl (Nat.le_of_ble_eq_true rfl) fun st => Pw.of TP [] ?_
  conv => whnf
  repeat' (first | (refine ⟨fun h => ?_, fun h => ?_⟩ <;> conv => whnf) | fail)
  · (refine Fin.old (congrArg vB ?_) (.refl _); rw [eqL_len (by omega)])
  · have hlm : l.length = m.length := by have := Classical.not_not.1 ‹_›; omega
    refine Pw.rng (τ := Unit) 17 l.length hl [1, 2, 15, 16] (fun _ => []) (fun i _ => ∀ (j : Nat), j < i → ∀ (h : j < l.length) (h' : j < m.length), f l[j] m[j] = true) () rfl ⟨⟩ (by intro j h; omega) fun i _ hi hx => Pw.of TP [] ?_
    conv => whnf
    repeat' (first | (refine ⟨fun h => ?_, fun h => ?_⟩ <;> conv => whnf) | fail)
    · have hi' := lt_map ‹_›
      have hi2 : i < m.length := by omega
      refine ixm hi' ?_
      have hm := hf l[i] (List.getElem_mem hi') m[i] (List.getElem_mem hi2)
      have h1 := eqL_no (f := f) hi' hi2
      have h2 : f l[i] m[i] = true → ∀ (j : Nat), j < i + 1 → ∀ (h : j < l.length) (h' : j < m.length), f l[j] m[j] = true := fun he j hj h h' => by
        by_cases hji : j = i
        · subst hji; exact he
        · exact hx j (by omega) h h'
      have k2 := fun F => ixm (f := eSet) (l := m) (j := i) (F := F) hi2
      generalize l[i] = a at hm h1 h2 ⊢
      generalize m[i] = b at hm h1 h2 k2
      obtain ⟨na, ka, oa, va, ma, la⟩ := a
      obtain ⟨nb, kb, ob, vb, mb, lb⟩ := b
      conv => whnf
      intro id hid
      conv => whnf
      refine ⟨_, upd_same _ _ _, Nat.le_refl 8, ?_⟩
      conv => whnf
      refine k2 _ ?_
      conv => whnf
      refine ⟨_, upd_same _ _ _, ?_⟩
      conv => whnf
      refine Is.callB hm fun b hb => ?_
      cases b <;> conv => whnf
      · exact Fin.old (congrArg vB (h1 hb).symm) ((Le.upd hid).up2 hid)
      · exact ⟨hi', rfl, ⟨rfl, rfl, rfl, rfl, trivial⟩, (), trivial, (Le.upd hid).up2 hid, h2 hb⟩
    · obtain rfl := nlt_map ‹_› hi
      (refine Fin.old (congrArg vB ?_) (.refl _); rw [eqL_all hlm (fun i h h' => hx i h h h')])
theorem eqfOrd_is (l m : List OrdX) (hl : l.length ≤ Big) (g : Nat) (caps : List AC) (f : OrdX → OrdX → Bool) (hf : ∀ e ∈ l, ∀ e' ∈ m, Is Tryz.prog g (.g (eOrd e) :: .g (eOrd e') :: caps.map .c) (vB (f e e'))) :
    Is Tryz.prog 24 [.c (.sl 8 (l.map eOrd)), .c (.sl 8 (m.map eOrd)), .c (.fn g caps)] (vB (eqL f l m)) := by
  have e1 : (l.map eOrd).length = l.length := List.length_map ..
  have e2 : (m.map eOrd).length = m.length := List.length_map ..
  refine Is.of TP Tryz.func24 rfl rfl (Nat.le_of_ble_eq_true rfl) fun st => Pw.of TP [] ?_
  conv => whnf
  repeat' (first | (refine ⟨fun h => ?_, fun h => ?_⟩ <;> conv => whnf) | fail)
  · (refine Fin.old (congrArg vB ?_) (.refl _); rw [eqL_len (by omega)])
  · have hlm : l.length = m.length := by have := Classical.not_not.1 ‹_›; omega
    refine Pw.rng (τ := Unit) 17 l.length hl [1, 2, 15, 16] (fun _ => []) (fun i _ => ∀ (j : Nat), j < i → ∀ (h : j < l.length) (h' : j < m.length), f l[j] m[j] = true) () rfl ⟨⟩ (by intro j h; omega) fun i _ hi hx => Pw.of TP [] ?_
    conv => whnf
    repeat' (first | (refine ⟨fun h => ?_, fun h => ?_⟩ <;> conv => whnf) | fail)
    · have hi' := lt_map ‹_›
      have hi2 : i < m.length := by omega
      refine ixm hi' ?_
      have hm := hf l[i] (List.getElem_mem hi') m[i] (List.getElem_mem hi2)
      have h1 := eqL_no (f := f) hi' hi2
      have h2 : f l[i] m[i] = true → ∀ (j : Nat), j < i + 1 → ∀ (h : j < l.length) (h' : j < m.length), f l[j] m[j] = true := fun he j hj h h' => by
        by_cases hji : j = i
        · subst hji; exact he
        · exact hx j (by omega) h h'
      have k2 := fun F => ixm (f := eOrd) (l := m) (j := i) (F := F) hi2
      generalize l[i] = a at hm h1 h2 ⊢
      generalize m[i] = b at hm h1 h2 k2
      obtain ⟨⟨ka, oa, va, ma, la⟩, da⟩ := a
      obtain ⟨⟨kb, ob, vb, mb, lb⟩, db⟩ := b
      conv => whnf
      intro id hid
      conv => whnf
      refine ⟨_, upd_same _ _ _, Nat.le_refl 8, ?_⟩
      conv => whnf
      refine k2 _ ?_
      conv => whnf
      refine ⟨_, upd_same _ _ _, ?_⟩
      conv => whnf
      refine Is.callB hm fun b hb => ?_
      cases b <;> conv => whnf
      · exact Fin.old (congrArg vB (h1 hb).symm) ((Le.upd hid).up2 hid)
      · exact ⟨hi', rfl, ⟨rfl, rfl, rfl, rfl, trivial⟩, (), trivial, (Le.upd hid).up2 hid, h2 hb⟩
    · obtain rfl := nlt_map ‹_› hi
      (refine Fin.old (congrArg vB ?_) (.refl _); rw [eqL_all hlm (fun i h h' => hx i h h h')])
theorem eqfSt_is (l m : List St) (hl : l.length ≤ Big) (g : Nat) (caps : List AC) (f : St → St → Bool) (hf : ∀ e ∈ l, ∀ e' ∈ m, Is Tryz.prog g (.g (eSt e) :: .g (eSt e') :: caps.map .c) (vB (f e e'))) :
    Is Tryz.prog 25 [.c (.sl 21 (l.map eSt)), .c (.sl 21 (m.map eSt)), .c (.fn g caps)] (vB (eqL f l m)) := by
  have e1 : (l.map eSt).length = l.length := List.length_map ..
  have e2 : (m.map eSt).length = m.length := List.length_map ..
  refine Is.of TP Tryz.func25 rfl rfl (Nat.le_of_ble_eq_true rfl) fun st => Pw.of TP [] ?_
  conv => whnf
  repeat' (first | (refine ⟨fun h => ?_, fun h => ?_⟩ <;> conv => whnf) | fail)
  · (refine Fin.old (congrArg vB ?_) (.refl _); rw [eqL_len (by omega)])
  · have hlm : l.length = m.length := by have := Classical.not_not.1 ‹_›; omega
    refine Pw.rng (τ := Unit) 17 l.length hl [1, 2, 15, 16] (fun _ => []) (fun i _ => ∀ (j : Nat), j < i → ∀ (h : j < l.length) (h' : j < m.length), f l[j] m[j] = true) () rfl ⟨⟩ (by intro j h; omega) fun i _ hi hx => Pw.of TP [] ?_
    conv => whnf
    repeat' (first | (refine ⟨fun h => ?_, fun h => ?_⟩ <;> conv => whnf) | fail)
    · have hi' := lt_map ‹_›
      have hi2 : i < m.length := by omega
      refine ixm hi' ?_
      have hm := hf l[i] (List.getElem_mem hi') m[i] (List.getElem_mem hi2)
      have h1 := eqL_no (f := f) hi' hi2
      have h2 : f l[i] m[i] = true → ∀ (j : Nat), j < i + 1 → ∀ (h : j < l.length) (h' : j < m.length), f l[j] m[j] = true := fun he j hj h h' => by
        by_cases hji : j = i
        · subst hji; exact he
        · exact hx j (by omega) h h'
      have k2 := fun F => ixm (f := eSt) (l := m) (j := i) (F := F) hi2
      generalize l[i] = a at hm h1 h2 ⊢
      generalize m[i] = b at hm h1 h2 k2
      obtain ⟨k1a, k2a, k3a, k4a, k5a, k6a, k7a, k8a, ⟨q1a, q2a, q3a, q4a, q5a⟩, k9a, k10a, k11a, k12a, k13a, k14a⟩ := a
      obtain ⟨k1b, k2b, k3b, k4b, k5b, k6b, k7b, k8b, ⟨q1b, q2b, q3b, q4b, q5b⟩, k9b, k10b, k11b, k12b, k13b, k14b⟩ := b
      conv => whnf
      intro id hid
      conv => whnf
      refine ⟨_, upd_same _ _ _, Nat.le_refl 21, ?_⟩
      conv => whnf
      refine k2 _ ?_
      conv => whnf
      refine ⟨_, upd_same _ _ _, ?_⟩
      conv => whnf
      refine Is.callB hm fun b hb => ?_
      cases b <;> conv => whnf
      · exact Fin.old (congrArg vB (h1 hb).symm) ((Le.upd hid).up2 hid)
      · exact ⟨hi', rfl, ⟨rfl, rfl, rfl, rfl, trivial⟩, (), trivial, (Le.upd hid).up2 hid, h2 hb⟩
    · obtain rfl := nlt_map ‹_› hi
      (refine Fin.old (congrArg vB ?_) (.refl _); rw [eqL_all hlm (fun i h h' => hx i h h h')])
theorem eqfRow_is (l m : List (List Ex)) (hl : l.length ≤ Big) (g : Nat) (caps : List AC) (f : (List Ex) → (List Ex) → Bool) (hf : ∀ e ∈ l, ∀ e' ∈ m, Is Tryz.prog g (.c (.sl 7 (eEs e)) :: .c (.sl 7 (eEs e')) :: caps.map .c) (vB (f e e'))) :
    Is Tryz.prog 36 [.c (.sl 1 (l.map eRow)), .c (.sl 1 (m.map eRow)), .c (.fn g caps)] (vB (eqL f l m)) := by
  have e1 : (l.map eRow).length = l.length := List.length_map ..
  have e2 : (m.map eRow).length = m.length := List.length_map ..
  refine Is.of TP Tryz.func36 rfl rfl (Nat.le_of_ble_eq_true rfl) fun st => Pw.of TP [] ?_
  conv => whnf
  repeat' (first | (refine ⟨fun h => ?_, fun h => ?_⟩ <;> conv => whnf) | fail)
  · (refine Fin.old (congrArg vB ?_) (.refl _); rw [eqL_len (by omega)])
  · have hlm : l.length = m.length := by have := Classical.not_not.1 ‹_›; omega
    refine Pw.rng (τ := Unit) 17 l.length hl [1, 2, 15, 16] (fun _ => []) (fun i _ => ∀ (j : Nat), j < i → ∀ (h : j < l.length) (h' : j < m.length), f l[j] m[j] = true) () rfl ⟨⟩ (by intro j h; omega) fun i _ hi hx => Pw.of TP [] ?_
    conv => whnf
    repeat' (first | (refine ⟨fun h => ?_, fun h => ?_⟩ <;> conv => whnf) | fail)
    · have hi' := lt_map ‹_›
      have hi2 : i < m.length := by omega
      refine ixm hi' ?_
      have hm := hf l[i] (List.getElem_mem hi') m[i] (List.getElem_mem hi2)
      have h1 := eqL_no (f := f) hi' hi2
      have h2 : f l[i] m[i] = true → ∀ (j : Nat), j < i + 1 → ∀ (h : j < l.length) (h' : j < m.length), f l[j] m[j] = true := fun he j hj h h' => by
        by_cases hji : j = i
        · subst hji; exact he
        · exact hx j (by omega) h h'
      have k2 := fun F => ixm (f := eRow) (l := m) (j := i) (F := F) hi2
      generalize l[i] = a at hm h1 h2 ⊢
      generalize m[i] = b at hm h1 h2 k2
      skip
      skip
      conv => whnf
      refine k2 _ ?_
      conv => whnf
      refine Is.callB hm fun b hb => ?_
      cases b <;> conv => whnf
      · exact Fin.old (congrArg vB (h1 hb).symm) (.refl _)
      · exact ⟨hi', rfl, ⟨rfl, rfl, rfl, rfl, trivial⟩, (), trivial, (.refl _), h2 hb⟩
    · obtain rfl := nlt_map ‹_› hi
      (refine Fin.old (congrArg vB ?_) (.refl _); rw [eqL_all hlm (fun i h h' => hx i h h h')])
end Go.Proofs.YtgbdhakkgnmeoaaGreat.D
namespace Go.Proofs.YtgbdhakkgnmeoaaGreat.D
set_option linter.unusedVariables false
set_option linter.unusedSimpArgs false
open Go Go.Proofs.YtgbdhakkgnmeoaaGreat.D.Pm
set_option maxRecDepth 4000
theorem sameCons_is (x y : Con) (ok : okC x) : Is Tryz.prog 18 [.g (eCon x), .g (eCon y)] (vB (eqCon x y)) := by
  have h1 := eqS_is x.cols y.cols (big12 ok.2.1.1)
  have h2 := eqS_is x.refs y.refs (big12 ok.2.2.2.2.1)
  have h3 := same_is x.check ok.2.2.1.1 y.check
  have he : eqCon x y = (decide (x.name = y.name) && (decide (x.kind = y.kind) && (decide (x.table = y.table) && (eqL eqStr x.cols y.cols && (eqL eqStr x.refs y.refs && eqE x.check y.check))))) := rfl
  rw [he]
  clear he ok
  obtain ⟨nx, yx, cx, ex, tx, rx⟩ := x
  obtain ⟨ny, yy, cy, ey, ty, ry⟩ := y
  dsimp only at h1 h2 h3 ⊢
  generalize eqL eqStr cx cy = q1 at h1 ⊢
  generalize eqL eqStr rx ry = q2 at h2 ⊢
  generalize eqE ex ey = q3 at h3 ⊢
  obtain ⟨k1, o1, v1, m1, l1⟩ := ex
  obtain ⟨k2, o2, v2, m2, l2⟩ := ey
  refine Is.of TP Tryz.func18 rfl rfl (Nat.le_of_ble_eq_true rfl) fun st => Pw.of TP [] ?_
  conv => whnf
  repeat' (first | (refine ⟨fun h => ?_, fun h => ?_⟩ <;> conv => whnf) | (refine Is.callB (h1) fun b hb => ?_; cases b <;> conv => whnf) | (refine Is.callB (h2) fun b hb => ?_; cases b <;> conv => whnf) | (refine Is.callB (h3) fun b hb => ?_; cases b <;> conv => whnf) | fail)
  all_goals clear h1 h2 h3
  all_goals (refine Fin.old (congrArg vB ?_) (.refl _); first | (simp [*]; done) | (simp_all; done))
theorem ssame1_is (x y : SetX) (ok : okE x.e) : Is Tryz.prog 21 [.g (eSet x), .g (eSet y)] (vB (eqSet x y)) := by
  have h3 := same_is x.e ok y.e
  have he : eqSet x y = (decide (x.name = y.name) && eqE x.e y.e) := rfl
  rw [he]
  clear he ok
  obtain ⟨nx, ex⟩ := x
  obtain ⟨ny, ey⟩ := y
  dsimp only at h3 ⊢
  generalize eqE ex ey = q3 at h3 ⊢
  obtain ⟨k1, o1, v1, m1, l1⟩ := ex
  obtain ⟨k2, o2, v2, m2, l2⟩ := ey
  refine Is.of TP Tryz.func21 rfl rfl (Nat.le_of_ble_eq_true rfl) fun st => Pw.of TP [] ?_
  conv => whnf
  repeat' (first | (refine ⟨fun h => ?_, fun h => ?_⟩ <;> conv => whnf) | (refine Is.callB (h3) fun b hb => ?_; cases b <;> conv => whnf) | fail)
  all_goals clear h3
  all_goals (refine Fin.old (congrArg vB ?_) (.refl _); first | (simp [*]; done) | (simp_all; done))
theorem ssame2_is (x y : OrdX) (ok : okE x.e) : Is Tryz.prog 22 [.g (eOrd x), .g (eOrd y)] (vB (eqOrd x y)) := by
  have h3 := same_is x.e ok y.e
  have he : eqOrd x y = (decide (x.desc = y.desc) && eqE x.e y.e) := rfl
  rw [he]
  clear he ok
  obtain ⟨ex, nx⟩ := x
  obtain ⟨ey, ny⟩ := y
  dsimp only at h3 ⊢
  generalize eqE ex ey = q3 at h3 ⊢
  obtain ⟨k1, o1, v1, m1, l1⟩ := ex
  obtain ⟨k2, o2, v2, m2, l2⟩ := ey
  cases nx <;> cases ny
  all_goals refine Is.of TP Tryz.func22 rfl rfl (Nat.le_of_ble_eq_true rfl) fun st => Pw.of TP [] ?_
  all_goals conv => whnf
  all_goals repeat' (first | (refine ⟨fun h => ?_, fun h => ?_⟩ <;> conv => whnf) | (refine Is.callB (h3) fun b hb => ?_; cases b <;> conv => whnf) | fail)
  all_goals clear h3
  all_goals (refine Fin.old (congrArg vB ?_) (.refl _); first | (simp [*]; done) | (simp_all; done))
theorem sameRows1_is (x y : List Ex) (hl : x.length ≤ 12) (ok : ∀ e ∈ x, okE e) : Is Tryz.prog 37 [.c (.sl 7 (eEs x)), .c (.sl 7 (eEs y))] (vB (eqL eqE x y)) := by
  have h := eqfE_is x y (big12 hl) 20 [] eqE (fun e he e' _ => same_is e (ok e he) e')
  refine Is.of TP Tryz.func37 rfl rfl (Nat.le_of_ble_eq_true rfl) fun st => Pw.of TP [] ?_
  conv => whnf
  refine Is.callB h fun b hb => ?_
  conv => whnf
  (refine Fin.old (congrArg vB ?_) (.refl _); rw [hb])
theorem sameRows_is (x y : List (List Ex)) (hl : x.length ≤ 12) (ok : ∀ r ∈ x, r.length ≤ 12 ∧ ∀ e ∈ r, okE e) : Is Tryz.prog 19 [.c (.sl 1 (x.map eRow)), .c (.sl 1 (y.map eRow))] (vB (eqL (eqL eqE) x y)) := by
  have h := eqfRow_is x y (big12 hl) 37 [] (eqL eqE) (fun e he e' _ => sameRows1_is e e' (ok e he).1 (ok e he).2)
  refine Is.of TP Tryz.func19 rfl rfl (Nat.le_of_ble_eq_true rfl) fun st => Pw.of TP [] ?_
  conv => whnf
  refine Is.callB h fun b hb => ?_
  conv => whnf
  (refine Fin.old (congrArg vB ?_) (.refl _); rw [hb])
set_option maxHeartbeats 1000000 in
theorem ssame_is : ∀ a, okSt a → ∀ b, Is Tryz.prog 7 [.g (eSt a), .g (eSt b)] (vB (eqSt a b)) := by
  refine St.ind fun k tb nm rl cols cons ns rows wh sets ord lim pr op kids ih ok b => ?_
  obtain ⟨k', tb', nm', rl', cols', cons', ns', rows', wh', sets', ord', lim', pr', op', kids'⟩ := b
  rw [okSt] at ok
  have h1 := eqC_is cols cols' (big12 ok.1)
  have h2 := eqS_is ns ns' (big12 ok.2.2.1)
  have h3 := eqfCon_is cons cons' (big12 ok.2.1.1) 18 [] eqCon (fun e he e' _ => sameCons_is e e' (ok.2.1.2 e he))
  have h4 := sameRows_is rows rows' ok.2.2.2.1.1 ok.2.2.2.1.2
  have h5 := same_is wh ok.2.2.2.2.1 wh'
  have h6 := eqfSet_is sets sets' (big12 ok.2.2.2.2.2.1.1) 21 [] eqSet (fun e he e' _ => ssame1_is e e' (ok.2.2.2.2.2.1.2 e he))
  have h7 := eqfOrd_is ord ord' (big12 ok.2.2.2.2.2.2.1.1) 22 [] eqOrd (fun e he e' _ => ssame2_is e e' (ok.2.2.2.2.2.2.1.2 e he))
  have h8 : Is Tryz.prog 25 [.c (.sl 21 (eSts kids)), .c (.sl 21 (eSts kids')), .c (.fn 7 [])] (vB (eqSts kids kids')) := by
    rw [eSts_map, eSts_map, eqSts_eq]
    exact eqfSt_is kids kids' (big12 ok.2.2.2.2.2.2.2.1) 7 [] eqSt (fun e he e' _ => ih e he (okSts_all ok.2.2.2.2.2.2.2.2 e he) e')
  rw [eqSt]
  clear ih ok
  generalize eqL eqCl cols cols' = p1 at h1 ⊢
  generalize eqL eqStr ns ns' = p2 at h2 ⊢
  generalize eqL eqCon cons cons' = p3 at h3 ⊢
  generalize eqL (eqL eqE) rows rows' = p4 at h4 ⊢
  generalize eqE wh wh' = p5 at h5 ⊢
  generalize eqL eqSet sets sets' = p6 at h6 ⊢
  generalize eqL eqOrd ord ord' = p7 at h7 ⊢
  generalize eqSts kids kids' = p8 at h8 ⊢
  obtain ⟨q1, q2, q3, q4, q5⟩ := wh
  obtain ⟨r1, r2, r3, r4, r5⟩ := wh'
  cases op <;> cases op'
  all_goals refine Is.of TP Tryz.func7 rfl rfl (Nat.le_of_ble_eq_true rfl) fun st => Pw.of TP [] ?_
  all_goals conv => whnf
  all_goals repeat' (first | (refine ⟨fun h => ?_, fun h => ?_⟩ <;> conv => whnf) | (refine Is.callB (h1) fun b hb => ?_; cases b <;> conv => whnf) | (refine Is.callB (h2) fun b hb => ?_; cases b <;> conv => whnf) | (refine Is.callB (h3) fun b hb => ?_; cases b <;> conv => whnf) | (refine Is.callB (h4) fun b hb => ?_; cases b <;> conv => whnf) | (refine Is.callB (h5) fun b hb => ?_; cases b <;> conv => whnf) | (refine Is.callB (h6) fun b hb => ?_; cases b <;> conv => whnf) | (refine Is.callB (h7) fun b hb => ?_; cases b <;> conv => whnf) | (refine Is.callB (h8) fun b hb => ?_; cases b <;> conv => whnf) | fail)
  all_goals clear h1 h2 h3 h4 h5 h6 h7 h8
  all_goals (refine Fin.old (congrArg vB ?_) (.refl _); first | (simp [*]; done) | (simp_all; done))
end Go.Proofs.YtgbdhakkgnmeoaaGreat.D
