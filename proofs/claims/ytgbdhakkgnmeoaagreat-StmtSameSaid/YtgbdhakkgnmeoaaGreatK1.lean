/- Words and contracts: a plain machine over the model, and what the functions that a law reaches come to, each for every input that its theorem names. -/
import Derived.Test.YtgbdhakkgnmeoaaGreatK0
import Derived.Test.YtgbdhakkgnmeoaaGreatV3
import Derived.Test.YtgbdhakkgnmeoaaGreatV2
namespace Go.Proofs.YtgbdhakkgnmeoaaGreat.D
set_option linter.unusedVariables false
set_option linter.unusedSimpArgs false
open Go Go.Proofs.YtgbdhakkgnmeoaaGreat.D.Pm
set_option maxRecDepth 4000
def kindE : Ex → Int
  | .mk k _ _ _ _ => k
def opE : Ex → Int
  | .mk _ o _ _ _ => o
def nameE : Ex → ByteArray
  | .mk _ _ _ n _ => n
/-- one more name, if it is one, and not there yet -/
def addName (out : List ByteArray) (e : Ex) : List ByteArray := if kindE e = 2 ∧ (out.any fun y => decide (nameE e = y)) = false then out ++ [nameE e] else out
abbrev Lim : Nat := 1000000
def RN (id : Nat) (st0 : Sto) (b : Nat) (out : List ByteArray) (st : Sto) : Prop := out.length + b ≤ Lim ∧ st0 id = none ∧ ∃ a, st id = some (.bx [a]) ∧ Grow st0 1 st a (out.map strC)
def namesE (e : Ex) : List ByteArray := foldE addName [] e
def maxPar (n : Int) (e : Ex) : Int := if kindE e = 3 then (if n < opE e then opE e else n) else n
def RP (id : Nat) (st0 : Sto) (b : Nat) (n : Int) (st : Sto) : Prop := st = upd st0 id (.bx [.v (.int .i64 n)]) ∧ st0 id = none
theorem upd_upd (st : Sto) (id : Nat) (o o' : Ob) : upd (upd st id o) id o' = upd st id o' := by
  funext i; unfold upd; split <;> rfl
def paramsE (e : Ex) : Int := foldE maxPar 0 e
end Go.Proofs.YtgbdhakkgnmeoaaGreat.D
namespace Go.Proofs.YtgbdhakkgnmeoaaGreat.D
set_option linter.unusedVariables false
set_option linter.unusedSimpArgs false
open Go Go.Proofs.YtgbdhakkgnmeoaaGreat.D.Pm
set_option maxRecDepth 4000
def eqL {α β : Type} (f : α → β → Bool) : List α → List β → Bool
  | [], [] => true
  | a :: l, b :: m => f a b && eqL f l m
  | _, _ => false
theorem eqL_len {α β : Type} {f : α → β → Bool} : ∀ {l : List α} {m : List β}, l.length ≠ m.length → eqL f l m = false
  | [], [], h => absurd rfl h
  | a :: l, b :: m, h => by rw [eqL, eqL_len (l := l) (m := m) (by simpa using h), Bool.and_false]
  | [], _ :: _, _ => rfl
  | _ :: _, [], _ => rfl
theorem eqL_no {α β : Type} {f : α → β → Bool} : ∀ {l : List α} {m : List β} {i : Nat} (h : i < l.length) (h' : i < m.length), f l[i] m[i] = false → eqL f l m = false
  | a :: l, b :: m, 0, h, h', hf => by simp at hf; simp [eqL, hf]
  | a :: l, b :: m, i + 1, h, h', hf => by rw [eqL, eqL_no (l := l) (m := m) (i := i) (by simpa using h) (by simpa using h') (by simpa using hf), Bool.and_false]
theorem eqL_all {α β : Type} {f : α → β → Bool} : ∀ {l : List α} {m : List β}, l.length = m.length → (∀ (i : Nat) (h : i < l.length) (h' : i < m.length), f l[i] m[i] = true) → eqL f l m = true
  | [], [], _, _ => rfl
  | a :: l, b :: m, h, hf => by
    have h0 : f a b = true := hf 0 (by simp) (by simp)
    rw [eqL, h0, eqL_all (l := l) (m := m) (by simpa using h) (fun i h1 h2 => hf (i + 1) (by simpa using h1) (by simpa using h2))]; rfl
mutual
def eqE : Ex → Ex → Bool
  | .mk k op v n kids, .mk k' op' v' n' kids' => decide (k = k') && (decide (op = op') && (decide (v.k = v'.k ∧ v.n = v'.n ∧ v.s = v'.s) && (decide (n = n') && eqEs kids kids')))
def eqEs : List Ex → List Ex → Bool
  | [], [] => true
  | a :: l, b :: m => eqE a b && eqEs l m
  | [], _ :: _ => false
  | _ :: _, [] => false
end
theorem eqEs_eq : ∀ l m, eqEs l m = eqL eqE l m
  | [], [] => rfl
  | a :: l, b :: m => by rw [eqEs, eqL, eqEs_eq l m]
  | [], _ :: _ => rfl
  | _ :: _, [] => rfl
theorem eqfE_is (l m : List Ex) (hl : l.length ≤ Big) (g : Nat) (caps : List AC) (f : Ex → Ex → Bool) (hf : ∀ e ∈ l, ∀ e' ∈ m, Is Tryz.prog g (.g (eE e) :: .g (eE e') :: caps.map .c) (vB (f e e'))) :
    Is Tryz.prog 38 [.c (.sl 7 (eEs l)), .c (.sl 7 (eEs m)), .c (.fn g caps)] (vB (eqL f l m)) := by
  have e1 := eEs_len l
  have e2 := eEs_len m
  refine Is.of TP Tryz.func38 rfl rfl (Nat.le_of_ble_eq_true rfl) fun st => Pw.of TP [] ?_
  conv => whnf
  repeat' (first | (refine ⟨fun h => ?_, fun h => ?_⟩ <;> conv => whnf) | fail)
  · (refine Fin.old (congrArg vB ?_) (.refl _); rw [eqL_len (by omega)])
  · have hlm : l.length = m.length := by have := Classical.not_not.1 ‹_›; omega
    refine Pw.rng (τ := Unit) 17 l.length hl [1, 2, 15, 16] (fun _ => []) (fun i _ => ∀ (j : Nat), j < i → ∀ (h : j < l.length) (h' : j < m.length), f l[j] m[j] = true) () rfl ⟨⟩ (by intro j h; omega) fun i _ hi hx => Pw.of TP [] ?_
    conv => whnf
    repeat' (first | (refine ⟨fun h => ?_, fun h => ?_⟩ <;> conv => whnf) | fail)
    · have hi' := ltE ‹_›
      have hi2 : i < m.length := by omega
      refine ixE hi' ?_
      have hm := hf l[i] (List.getElem_mem hi') m[i] (List.getElem_mem hi2)
      have h1 := eqL_no (f := f) hi' hi2
      have h2 : f l[i] m[i] = true → ∀ (j : Nat), j < i + 1 → ∀ (h : j < l.length) (h' : j < m.length), f l[j] m[j] = true := fun he j hj h h' => by
        by_cases hji : j = i
        · subst hji; exact he
        · exact hx j (by omega) h h'
      have k2 := fun F => ixE (l := m) (j := i) (F := F) hi2
      generalize l[i] = a at hm h1 h2 ⊢
      generalize m[i] = b at hm h1 h2 k2
      cases a
      cases b
      conv => whnf
      intro id hid
      conv => whnf
      refine ⟨_, upd_same _ _ _, Nat.le_refl 7, ?_⟩
      conv => whnf
      refine k2 _ ?_
      conv => whnf
      refine ⟨_, upd_same _ _ _, ?_⟩
      conv => whnf
      refine Is.callB hm fun b hb => ?_
      cases b <;> conv => whnf
      · exact Fin.old (congrArg vB (h1 hb).symm) ((Le.upd hid).up2 hid)
      · exact ⟨hi', rfl, ⟨rfl, rfl, rfl, rfl, trivial⟩, (), trivial, (Le.upd hid).up2 hid, h2 hb⟩
    · obtain rfl := nltE ‹_› hi
      (refine Fin.old (congrArg vB ?_) (.refl _); rw [eqL_all hlm (fun i h h' => hx i h h h')])
def vEq (v w : Val) : Bool := decide (v.k = w.k ∧ v.n = w.n ∧ v.s = w.s)
theorem same_is : ∀ e, okE e → ∀ e', Is Tryz.prog 20 [.g (eE e), .g (eE e')] (vB (eqE e e')) := by
  refine Ex.ind fun k op v n kids ih ok e' => ?_
  obtain ⟨k', op', v', n', kids'⟩ := e'
  have hk := eqfE_is kids kids' ok.2.2.1 20 [] eqE (fun e he e' _ => ih e he (okEs_all ok.2.2.2 e he) e')
  have he : eqE (.mk k op v n kids) (.mk k' op' v' n' kids') = (decide (k = k') && (decide (op = op') && (decide (v.k = v'.k ∧ v.n = v'.n ∧ v.s = v'.s) && (decide (n = n') && eqL eqE kids kids')))) := by rw [eqE, eqEs_eq]
  rw [he]
  generalize eqL eqE kids kids' = r at hk ⊢
  clear ih ok he
  refine Is.of TP Tryz.func20 rfl rfl (Nat.le_of_ble_eq_true rfl) fun st => Pw.of TP [] ?_
  conv => whnf
  repeat' (first | (refine ⟨fun h => ?_, fun h => ?_⟩ <;> conv => whnf) | (refine Is.callB (hk) fun b hb => ?_; cases b <;> conv => whnf) | fail)
  all_goals clear hk
  all_goals (refine Fin.old (congrArg vB ?_) (.refl _); first | (simp [*]; done) | (simp_all; done))
theorem sameList_is (l m : List Ex) (hl : l.length ≤ Big) (hf : ∀ e ∈ l, ∀ e', Is Tryz.prog 27 [.g (eE e), .g (eE e')] (vB (eqE e e'))) :
    Is Tryz.prog 29 [.c (.sl 7 (eEs l)), .c (.sl 7 (eEs m))] (vB (eqL eqE l m)) := by
  have e1 := eEs_len l
  have e2 := eEs_len m
  refine Is.of TP Tryz.func29 rfl rfl (Nat.le_of_ble_eq_true rfl) fun st => Pw.of TP [] ?_
  conv => whnf
  repeat' (first | (refine ⟨fun h => ?_, fun h => ?_⟩ <;> conv => whnf) | fail)
  · (refine Fin.old (congrArg vB ?_) (.refl _); rw [eqL_len (by omega)])
  · have hlm : l.length = m.length := by have := Classical.not_not.1 ‹_›; omega
    refine Pw.rng (τ := Unit) 5 l.length hl [0, 1] (fun _ => []) (fun i _ => ∀ (j : Nat), j < i → ∀ (h : j < l.length) (h' : j < m.length), eqE l[j] m[j] = true) () rfl ⟨⟩ (by intro j h; omega) fun i _ hi hx => Pw.of TP [] ?_
    conv => whnf
    repeat' (first | (refine ⟨fun h => ?_, fun h => ?_⟩ <;> conv => whnf) | fail)
    · have hi' := ltE ‹_›
      have hi2 : i < m.length := by omega
      refine Pw.drw TP mixed (by kernel_rfl) ?_; conv => whnf
      refine ixE hi' ?_
      have hm := hf l[i] (List.getElem_mem hi') m[i]
      have h1 := eqL_no (f := eqE) hi' hi2
      have h2 : eqE l[i] m[i] = true → ∀ (j : Nat), j < i + 1 → ∀ (h : j < l.length) (h' : j < m.length), eqE l[j] m[j] = true := fun he j hj h h' => by
        by_cases hji : j = i
        · subst hji; exact he
        · exact hx j (by omega) h h'
      have k2 := fun F => ixE (l := m) (j := i) (F := F) hi2
      generalize l[i] = a at hm h1 h2 ⊢
      generalize m[i] = b at hm h1 h2 k2
      generalize hr : eqE a b = r at hm h1 h2
      clear hr
      cases a
      cases b
      conv => whnf
      refine k2 _ ?_
      conv => whnf
      refine Is.drawB hm fun b hb => ?_
      cases b <;> conv => whnf
      · exact Fin.old (congrArg vB (h1 hb).symm) (.refl _)
      · exact ⟨hi', rfl, ⟨rfl, rfl, trivial⟩, (), trivial, .refl _, h2 hb⟩
    · obtain rfl := nltE ‹_› hi
      (refine Fin.old (congrArg vB ?_) (.refl _); rw [eqL_all hlm (fun i h h' => hx i h h h')])
theorem rsame_is : ∀ e, okE e → ∀ e', Is Tryz.prog 27 [.g (eE e), .g (eE e')] (vB (eqE e e')) := by
  refine Ex.ind fun k op v n kids ih ok e' => ?_
  obtain ⟨k', op', v', n', kids'⟩ := e'
  have hk := sameList_is kids kids' ok.2.2.1 (fun e he e' => ih e he (okEs_all ok.2.2.2 e he) e')
  have he : eqE (.mk k op v n kids) (.mk k' op' v' n' kids') = (decide (k = k') && (decide (op = op') && (decide (v.k = v'.k ∧ v.n = v'.n ∧ v.s = v'.s) && (decide (n = n') && eqL eqE kids kids')))) := by rw [eqE, eqEs_eq]
  rw [he]
  generalize eqL eqE kids kids' = r at hk ⊢
  clear ih ok he
  refine Is.of TP Tryz.func27 rfl rfl (Nat.le_of_ble_eq_true rfl) fun st => Pw.of TP [] ?_
  conv => whnf
  repeat' (first | (refine ⟨fun h => ?_, fun h => ?_⟩ <;> conv => whnf) | (refine Is.callB (hk) fun b hb => ?_; cases b <;> conv => whnf) | fail)
  all_goals clear hk
  all_goals (refine Fin.old (congrArg vB ?_) (.refl _); first | (simp [*]; done) | (simp_all; done))
end Go.Proofs.YtgbdhakkgnmeoaaGreat.D
namespace Go.Proofs.YtgbdhakkgnmeoaaGreat.D
set_option linter.unusedVariables false
set_option linter.unusedSimpArgs false
open Go Go.Proofs.YtgbdhakkgnmeoaaGreat.D.Pm
set_option maxRecDepth 4000
theorem anyTo_iff {s : ByteArray} {c : Int} : ∀ {n : Nat}, anyTo s c n = true ↔ ∃ i : Nat, i < n ∧ by_ s i = c
  | 0 => by simp [anyTo]
  | n + 1 => by
    rw [anyTo, Bool.or_eq_true, anyTo_iff, decide_eq_true_iff]
    constructor
    · rintro (⟨i, h1, h2⟩ | h)
      · exact ⟨i, by omega, h2⟩
      · exact ⟨n, by omega, h⟩
    · rintro ⟨i, h1, h2⟩
      by_cases h : i = n
      · subst h; exact .inr h2
      · exact .inl ⟨i, by omega, h2⟩
theorem smalls_at : ∀ i : Fin 26, by_ smalls (i.1 : Nat) = 97 + (i.1 : Int) := by decide
theorem digits_at : ∀ i : Fin 10, by_ digitS (i.1 : Nat) = 48 + (i.1 : Int) := by decide
theorem wordS_at : (∀ i : Fin 26, by_ wordS (i.1 : Nat) = 97 + (i.1 : Int)) ∧ (∀ i : Fin 10, by_ wordS (26 + i.1 : Nat) = 48 + (i.1 : Int)) ∧ by_ wordS (36 : Nat) = 95 := by decide
theorem memB_small (c : Int) : memB smalls c = small c := by
  rw [Bool.eq_iff_iff, memB, anyTo_iff, small, decide_eq_true_iff]
  constructor
  · rintro ⟨i, h1, h2⟩
    have h1' : i < 26 := h1
    have := smalls_at ⟨i, h1'⟩
    simp only at this
    omega
  · rintro ⟨h1, h2⟩
    refine ⟨(c - 97).toNat, ?_, ?_⟩
    · show (c - 97).toNat < 26; omega
    · have := smalls_at ⟨(c - 97).toNat, by omega⟩
      simp only at this
      omega
theorem memB_word (c : Int) : memB wordS c = wordc c := by
  rw [Bool.eq_iff_iff, memB, anyTo_iff, wordc, small, digit, Bool.or_eq_true, Bool.or_eq_true, decide_eq_true_iff, decide_eq_true_iff, decide_eq_true_iff]
  obtain ⟨w1, w2, w3⟩ := wordS_at
  constructor
  · rintro ⟨i, h1, h2⟩
    have h1' : i < 37 := h1
    by_cases ha : i < 26
    · have := w1 ⟨i, ha⟩
      simp only at this
      omega
    · by_cases hb : i < 36
      · have := w2 ⟨i - 26, by omega⟩
        simp only at this
        rw [show 26 + (i - 26) = i by omega] at this
        omega
      · obtain rfl : i = 36 := by omega
        right
        rw [← h2]; exact w3
  · intro h
    have h37 : wordS.size = 37 := by decide
    rw [h37]
    rcases h with (h | h) | h
    · have := w1 ⟨(c - 97).toNat, by omega⟩
      simp only at this
      exact ⟨(c - 97).toNat, by omega, by omega⟩
    · have := w2 ⟨(c - 48).toNat, by omega⟩
      simp only at this
      exact ⟨26 + (c - 48).toNat, by omega, by omega⟩
    · exact ⟨36, by omega, by rw [h]; exact w3⟩
theorem run_all (p : Int → Bool) (s : ByteArray) : ∀ (m k : Nat), k ≤ s.size → (run p s k m = s.size - k ↔ s.size - k ≤ m ∧ allB s k p = true) ∧ run p s k m ≤ s.size - k
  | 0, k, hk => by
    refine ⟨⟨fun h => ?_, fun h => by simp [run]; omega⟩, by simp [run]⟩
    have h1 : ¬ k < s.size := by simp [run] at h; omega
    exact ⟨by omega, allB_end h1⟩
  | m + 1, k, hk => by
    by_cases h : k < s.size
    · rw [allB_on h, run, if_pos h]
      by_cases hp : p (by_ s k) = true
      · rw [if_pos hp, hp, Bool.true_and]
        obtain ⟨ih, ih2⟩ := run_all p s m (k + 1) (by omega)
        refine ⟨⟨fun h1 => ?_, fun h1 => ?_⟩, by omega⟩
        · have := ih.1 (by omega); exact ⟨by omega, this.2⟩
        · have := ih.2 ⟨by omega, h1.2⟩; omega
      · rw [if_neg hp]
        simp only [Bool.not_eq_true] at hp
        rw [hp, Bool.false_and]
        exact ⟨⟨fun h1 => by omega, fun h1 => by cases h1.2⟩, by omega⟩
    · rw [run_no h, allB_end h]
      exact ⟨⟨fun _ => ⟨by omega, rfl⟩, fun _ => by omega⟩, by omega⟩
theorem allB_congr {s : ByteArray} {p q : Int → Bool} (h : ∀ c, p c = q c) (k : Nat) : allB s k p = allB s k q := by
  have : p = q := funext h
  rw [this]
theorem by_ext (s : ByteArray) (h : 0 < s.size) : by_ (s.extract 0 1) 0 = by_ s 0 := by
  have h1 : (s.extract 0 1).size = 1 := by rw [ByteArray.size_extract]; omega
  unfold by_
  rw [dif_pos (show (0 : Int).toNat < (s.extract 0 1).size by rw [h1]; decide), dif_pos (show (0 : Int).toNat < s.size from h)]
  congr 2
  rw [ByteArray.getElem_extract]
  rfl
theorem isName_eq (s : ByteArray) : isName s = decide (rkind s = 1) := by
  rw [Bool.eq_iff_iff, decide_eq_true_iff, isName, right, if_neg (by omega)]
  by_cases h0 : s = ⟨#[]⟩
  · rw [if_pos h0, rkind, if_pos h0]; simp
  have hs : 0 < s.size := by
    rcases Nat.eq_zero_or_pos s.size with h1 | h1
    · have e : s = ByteArray.empty := by simpa using h1
      exact absurd e h0
    · exact h1
  have e1 : (s.extract 0 1).size = 1 := by rw [ByteArray.size_extract]; omega
  have k1 : kw1 s = (decide (s.size ≤ 12) && (small (by_ s 0) && allB s 1 wordc)) := by
    rw [kw1, allB_on (by rw [e1]; decide), allB_end (by rw [e1]; decide), Bool.and_true, memB_small, allB_congr memB_word]
    rw [show ((0 : Nat) : Int) = 0 from rfl, by_ext s hs]
  rw [if_neg h0, decide_eq_true_iff, rkind, if_neg h0]
  have hk : (∃ x : Nat, x = (if kw2 s = true then 2 else if kw3 s = true then 3 else if rquoted s = true then 4 else if kw5 s = true then 5 else if rsign s = true then 6 else 0) ∧ x ≠ 1) := by
    refine ⟨_, rfl, ?_⟩
    repeat' split
    all_goals omega
  obtain ⟨x, hx, hx1⟩ := hk
  rw [← hx]
  by_cases hsm : small (by_ s 0) = true
  · have ho : one s = (1, alone s (run wordc s 0 12)) := by rw [one, if_pos hsm]
    obtain ⟨r1, r2⟩ := run_all wordc s 12 0 (Nat.zero_le _)
    have ha : allB s 0 wordc = allB s 1 wordc := by
      rw [allB_on hs, show wordc (by_ s (0 : Nat)) = true by rw [wordc, show by_ s (0 : Nat) = by_ s 0 from rfl, hsm]; rfl, Bool.true_and]
    rw [ho, k1, hsm, Bool.true_and, ← ha]
    have hal : alone s (run wordc s 0 12) = s.size ↔ run wordc s 0 12 = s.size := by
      unfold alone
      split
      · constructor
        · intro h; omega
        · intro h; omega
      · rfl
    simp only [Nat.sub_zero] at r1
    rw [hal, r1]
    constructor
    · rintro ⟨⟨h1, h2⟩, _⟩; simp [h1, h2]
    · intro h
      split at h
      · rename_i hc; simp at hc; exact ⟨⟨hc.1, hc.2⟩, rfl⟩
      · exact absurd h hx1
  · have hsm' : small (by_ s 0) = false := by simpa using hsm
    rw [k1, hsm', Bool.false_and, Bool.and_false, if_neg (by simp)]
    constructor
    · rintro ⟨_, h2⟩
      exfalso
      have h3 : (one s).1 = 1 := by omega
      revert h3
      rw [one, if_neg hsm]
      repeat' split
      all_goals simp
    · intro h; exact absurd h hx1
end Go.Proofs.YtgbdhakkgnmeoaaGreat.D
namespace Go.Proofs.YtgbdhakkgnmeoaaGreat.D
set_option linter.unusedVariables false
set_option linter.unusedSimpArgs false
open Go Go.Proofs.YtgbdhakkgnmeoaaGreat.D.Pm
set_option maxRecDepth 4000
theorem heights_take {l : List Ex} {i : Nat} (h : i < l.length) : heights (l.take (i + 1)) = max (heights (l.take i)) (height l[i]) := by
  induction l generalizing i with
  | nil => simp at h
  | cons a l ih =>
    cases i with
    | zero => simp [heights]
    | succ i => simp only [List.take_succ_cons, heights, List.getElem_cons_succ]; rw [ih (by simpa using h), Nat.max_assoc]
mutual
theorem height_nodes : ∀ e : Ex, height e ≤ nodes e
  | .mk k op v n kids => by rw [height, nodes]; have := heights_nodes kids; omega
theorem heights_nodes : ∀ l : List Ex, heights l ≤ nodesL l
  | [] => Nat.le_refl _
  | e :: l => by rw [heights, nodesL]; have := heights_nodes l; have := height_nodes e; omega
end
theorem nodes_mem {e : Ex} : ∀ {l : List Ex}, e ∈ l → nodes e ≤ nodesL l
  | a :: l, h => by
    rw [nodesL]
    rcases List.mem_cons.1 h with rfl | h
    · omega
    · have := nodes_mem h; omega
def nvB (v : Val) : Bool := decide (v.k = 0 ∧ v.n = 0 ∧ v.s = ⟨#[]⟩)
theorem rightE_b1 {slots : Bool} {k op : Int} {v : Val} {nm : ByteArray} {kids : List Ex} (h : (¬ k = 1 ∧ nvB v = false) ∨ (¬ k = 2 ∧ ¬ k = 7 ∧ ¬ nm = ⟨#[]⟩)) : rightE slots (.mk k op v nm kids) = false := by
  have e1 : decide (v.k = 0 ∧ v.n = 0 ∧ v.s = ⟨#[]⟩) = nvB v := rfl
  simp only [rightE, bare, e1]
  generalize nvB v = p at h ⊢
  repeat' split
  all_goals rcases h with ⟨h1, h2⟩ | ⟨h1, h2, h3⟩ <;> first | contradiction | (simp [h2]; done) | (simp [h3]; done) | simp [*]
theorem rightE_b2 {slots : Bool} {k op : Int} {v : Val} {nm : ByteArray} {kids : List Ex} (h : (k = 1 ∨ k = 2 ∨ k = 6 ∨ k = 7) ∧ ¬ op = 0) : rightE slots (.mk k op v nm kids) = false := by
  obtain ⟨h1, h2⟩ := h
  simp only [rightE, bare]
  rcases h1 with rfl | rfl | rfl | rfl <;> simp [h2]
def ownR (slots : Bool) (k op : Int) (v : Val) (nm : ByteArray) (n : Nat) : Bool :=
  if k = 1 then decide (n = 0) && (vright v && !(decide (v.k = 1) && decide (v.n < 0)))
  else if k = 2 then decide (n = 0) && decide (rkind nm = 1)
  else if k = 3 then decide (n = 0) && (decide (1 ≤ op) && decide (op ≤ 6))
  else if k = 4 then decide (n = 1) && (decide (1 ≤ op) && decide (op ≤ 4))
  else if k = 5 then decide (n = 2) && (decide (1 ≤ op) && decide (op ≤ 14))
  else if k = 6 then decide (2 ≤ n) && decide (n ≤ 9)
  else if k = 7 then (decide (nm = coalesceS) && (decide (1 ≤ n) && decide (n ≤ 4))) || ((decide (nm = lengthS) || decide (nm = absS)) && decide (n = 1))
  else if k = 8 then slots && (decide (n = 0) && (decide (0 ≤ op) && decide (op ≤ 5)))
  else false
theorem rightE_own {slots : Bool} {k op : Int} {v : Val} {nm : ByteArray} {kids : List Ex} (h1 : ¬ ((¬ k = 1 ∧ nvB v = false) ∨ (¬ k = 2 ∧ ¬ k = 7 ∧ ¬ nm = ⟨#[]⟩))) (h2 : ¬ ((k = 1 ∨ k = 2 ∨ k = 6 ∨ k = 7) ∧ ¬ op = 0)) :
    rightE slots (.mk k op v nm kids) = ownR slots k op v nm kids.length := by
  have e1 : decide (v.k = 0 ∧ v.n = 0 ∧ v.s = ⟨#[]⟩) = nvB v := rfl
  simp only [rightE, bare, e1, ownR, isName_eq]
  generalize nvB v = p at h1 ⊢
  have a1 : ¬ k = 1 → p = true := fun h => by
    cases p with
    | true => rfl
    | false => exact absurd (.inl ⟨h, rfl⟩) h1
  have a2 : ¬ k = 2 → ¬ k = 7 → nm = ⟨#[]⟩ := fun h h' => Classical.byContradiction fun h'' => h1 (.inr ⟨h, h', h''⟩)
  have a3 : (k = 1 ∨ k = 2 ∨ k = 6 ∨ k = 7) → op = 0 := fun h => Classical.byContradiction fun h' => h2 ⟨h, h'⟩
  clear h1 h2
  by_cases k1 : k = 1
  · have b1 := a2 (by omega) (by omega)
    have b2 := a3 (.inl k1)
    simp only [k1, b1, b2, if_pos]
    have e9 : decide (0 ≤ v.n) = !decide (v.n < 0) := by by_cases h : v.n < 0 <;> simp [h] <;> omega
    simp [e9]
  have hp := a1 k1
  by_cases k2 : k = 2
  · have b2 := a3 (.inr (.inl k2))
    subst k2
    simp [hp, b2]
  by_cases k3 : k = 3
  · have b1 := a2 (by omega) (by omega)
    subst k3; simp [hp, b1]
  by_cases k4 : k = 4
  · have b1 := a2 (by omega) (by omega)
    subst k4; simp [hp, b1]
  by_cases k5 : k = 5
  · have b1 := a2 (by omega) (by omega)
    subst k5; simp [hp, b1]
  by_cases k6 : k = 6
  · have b1 := a2 (by omega) (by omega)
    have b2 := a3 (.inr (.inr (.inl k6)))
    subst k6; simp [hp, b1, b2]
  by_cases k7 : k = 7
  · have b2 := a3 (.inr (.inr (.inr k7)))
    subst k7
    have c1 : decide ((1 : Int) ≤ (kids.length : Nat)) = decide (1 ≤ kids.length) := by rw [Bool.eq_iff_iff]; simp; omega
    have c2 : decide (((kids.length : Nat) : Int) ≤ 4) = decide (kids.length ≤ 4) := by rw [Bool.eq_iff_iff]; simp; omega
    have c3 : decide (((kids.length : Nat) : Int) = 1) = decide (kids.length = 1) := by rw [Bool.eq_iff_iff]; simp; omega
    simp [hp, b2, callOk, c1, c2, c3]
    by_cases h1 : nm = coalesceS
    · subst h1
      simp [show ¬ coalesceS = lengthS by decide, show ¬ coalesceS = absS by decide]
    · by_cases h2 : nm = lengthS
      · simp [h1, h2, show ¬ lengthS = coalesceS by decide]
      · simp [h1, h2]
  by_cases k8 : k = 8
  · have b1 := a2 (by omega) (by omega)
    subst k8; have e9 : decide (op < 6) = decide (op ≤ 5) := by rw [Bool.eq_iff_iff]; simp; omega
    simp [hp, b1, e9]
  simp [k1, k2, k3, k4, k5, k6, k7, k8]
end Go.Proofs.YtgbdhakkgnmeoaaGreat.D
namespace Go.Proofs.YtgbdhakkgnmeoaaGreat.D
set_option linter.unusedVariables false
set_option linter.unusedSimpArgs false
open Go Go.Proofs.YtgbdhakkgnmeoaaGreat.D.Pm
set_option maxRecDepth 4000
mutual
def cnt : Ex → Int → Option Int
  | .mk _ _ v nm kids, n => if n ≤ 0 then none else if 12 < kids.length then none else if 100 < nm.size then none else if 100 < v.s.size then none else cnts kids (n - 1)
def cnts : List Ex → Int → Option Int
  | [], n => some n
  | e :: l, n => match cnt e n with
    | some m => cnts l m
    | none => none
end
mutual
theorem cnt_ok : ∀ (e : Ex) (n m : Int), cnt e n = some m → okE e ∧ (nodes e : Int) + m = n ∧ 0 ≤ m
  | .mk k op v nm kids, n, m, h => by
    rw [cnt] at h
    split at h
    · cases h
    split at h
    · cases h
    split at h
    · cases h
    split at h
    · cases h
    obtain ⟨h1, h2, h3⟩ := cnts_ok kids (n - 1) m h (by omega)
    refine ⟨⟨by unfold Big; omega, by unfold Big; omega, by unfold Big; omega, h1⟩, ?_, h3⟩
    rw [nodes]; omega
theorem cnts_ok : ∀ (l : List Ex) (n m : Int), cnts l n = some m → 0 ≤ n → okEs l ∧ (nodesL l : Int) + m = n ∧ 0 ≤ m
  | [], n, m, h, h0 => by cases h; exact ⟨trivial, by simp [nodesL], h0⟩
  | e :: l, n, m, h, h0 => by
    rw [cnts] at h
    split at h
    · rename_i x hx
      obtain ⟨h1, h2, h3⟩ := cnt_ok e n x hx
      obtain ⟨h4, h5, h6⟩ := cnts_ok l x m h h3
      refine ⟨⟨h1, h4⟩, ?_, h6⟩
      rw [nodesL]; omega
    · cases h
end
theorem cnts_take {l : List Ex} {i : Nat} {n m : Int} (h : i < l.length) (hc : cnts (l.take i) n = some m) : cnts (l.take (i + 1)) n = cnt l[i] m := by
  induction l generalizing i n with
  | nil => simp at h
  | cons a l ih =>
    cases i with
    | zero =>
      simp only [List.take_zero, cnts] at hc
      cases hc
      simp only [List.take_succ_cons, List.take_zero, cnts, List.getElem_cons_zero]
      cases cnt a m <;> rfl
    | succ i =>
      simp only [List.take_succ_cons, cnts, List.getElem_cons_succ] at hc ⊢
      cases ha : cnt a n with
      | none => rw [ha] at hc; cases hc
      | some x => rw [ha] at hc; exact ih (by simpa using h) hc
theorem cnts_none {l : List Ex} {i : Nat} {n : Int} (hc : cnts (l.take i) n = none) : cnts l n = none := by
  induction l generalizing i n with
  | nil => simpa using hc
  | cons a l ih =>
    cases i with
    | zero => simp [cnts] at hc
    | succ i =>
      simp only [List.take_succ_cons, cnts] at hc ⊢
      cases ha : cnt a n with
      | none => rfl
      | some x => rw [ha] at hc; exact ih hc
def cntR : Option Int → AV
  | some m => .t [vI .i64 m, vB true]
  | none => .t [vI .i64 0, vB false]
theorem count_is : ∀ e, ∀ n : Int, n ≤ 1000 → Is Tryz.prog 35 [.g (eE e), vI .i64 n] (cntR (cnt e n)) := by
  refine Ex.ind fun k op v nm kids ih n hn => ?_
  have el := eEs_len kids
  refine Is.of TP Tryz.func35 rfl rfl (Nat.le_of_ble_eq_true rfl) fun st => Pw.of TP [] ?_
  conv => whnf
  repeat' (first | (refine ⟨fun h => ?_, fun h => ?_⟩ <;> conv => whnf) | fail)
  · exact Fin.old (by rw [cnt, if_pos ‹_›]; rfl) (.refl _)
  · exact Fin.old (by rw [cnt, if_neg ‹_›, if_pos (by omega)]; rfl) (.refl _)
  · exact Fin.old (by rw [cnt, if_neg ‹_›, if_neg (by omega), if_pos (by omega)]; rfl) (.refl _)
  · exact Fin.old (by rw [cnt, if_neg ‹_›, if_neg (by omega), if_neg (by omega), if_pos (by omega)]; rfl) (.refl _)
  · have e0 : cnt (.mk k op v nm kids) n = cnts kids (n - 1) := by rw [cnt, if_neg ‹_›, if_neg (by omega), if_neg (by omega), if_neg (by omega)]
    rw [e0]
    have hk : kids.length ≤ Big := by unfold Big; omega
    have w1 : IntKind.i64.wrap (n - 1) = n - 1 := wrap_id (by omega) (by omega)
    refine Pw.rng (τ := Int) 6 kids.length hk [2] (fun m => [(1, vI .i64 m)]) (fun i m => cnts (kids.take i) (n - 1) = some m ∧ m ≤ 1000) (n - 1) rfl ⟨congrArg (fun n => some (vI .i64 n)) w1, trivial⟩ ⟨rfl, by omega⟩ fun i m hi hx => Pw.of TP [] ?_
    obtain ⟨hx, hm2⟩ := hx
    conv => whnf
    repeat' (first | (refine ⟨fun h => ?_, fun h => ?_⟩ <;> conv => whnf) | fail)
    · have hi' := ltE ‹_›
      refine ixE hi' ?_
      have hm := ih kids[i] (List.getElem_mem hi') m hm2
      have hs := cnts_take hi' hx
      generalize kids[i] = e at hm hs ⊢
      have hc := cnt_ok e m
      generalize cnt e m = r at hm hs hc
      cases e
      conv => whnf
      refine hm.call ?_
      cases r <;> conv => whnf
      · exact Fin.old (by rw [cnts_none hs]; rfl) (.refl _)
      · exact ⟨hi', rfl, ⟨rfl, trivial⟩, _, ⟨rfl, trivial⟩, .refl _, hs, by have := hc _ rfl; omega⟩
    · obtain rfl := nltE ‹_› hi
      rw [List.take_length] at hx
      exact Fin.old (by rw [hx]; rfl) (.refl _)
def fewE (n : Int) (e : Ex) : Bool := (cnt e n).isSome
theorem few_is (e : Ex) (n : Int) (hn : n ≤ 1000) : Is Tryz.prog 14 [.g (eE e), vI .i64 n] (vB (fewE n e)) := by
  have h := count_is e n hn
  have hf : fewE n e = (cnt e n).isSome := rfl
  rw [hf]
  generalize cnt e n = r at h
  cases e
  refine Is.of TP Tryz.func14 rfl rfl (Nat.le_of_ble_eq_true rfl) fun st => Pw.of TP [] ?_
  conv => whnf
  refine h.call ?_
  cases r <;> conv => whnf
  all_goals (refine Fin.old (congrArg vB ?_) (.refl _); rfl)
end Go.Proofs.YtgbdhakkgnmeoaaGreat.D
namespace Go.Proofs.YtgbdhakkgnmeoaaGreat.D
set_option linter.unusedVariables false
set_option linter.unusedSimpArgs false
open Go Go.Proofs.YtgbdhakkgnmeoaaGreat.D.Pm
set_option maxRecDepth 4000
mutual
def parts : Ex → List Ex
  | .mk k op v nm kids => .mk k op v nm kids :: partsL kids
def partsL : List Ex → List Ex
  | [] => []
  | e :: l => parts e ++ partsL l
end
theorem partsL_take {l : List Ex} {i : Nat} (h : i < l.length) : partsL (l.take (i + 1)) = partsL (l.take i) ++ parts l[i] := by
  induction l generalizing i with
  | nil => simp at h
  | cons a l ih =>
    cases i with
    | zero => simp [partsL]
    | succ i => simp only [List.take_succ_cons, partsL, List.getElem_cons_succ]; rw [ih (by simpa using h), List.append_assoc]
mutual
theorem parts_len : ∀ e : Ex, (parts e).length = nodes e
  | .mk k op v nm kids => by rw [parts, nodes, List.length_cons, partsL_len kids]
theorem partsL_len : ∀ l : List Ex, (partsL l).length = nodesL l
  | [] => rfl
  | e :: l => by rw [partsL, nodesL, List.length_append, parts_len e, partsL_len l]
end
theorem nodesL_take {l : List Ex} {i : Nat} : nodesL (l.take i) ≤ nodesL l := by
  induction l generalizing i with
  | nil => simp
  | cons a l ih =>
    cases i with
    | zero => simp [nodesL]
    | succ i => simp only [List.take_succ_cons, nodesL]; have := ih (i := i); omega
mutual
theorem fold_parts {X : Type} (f : X → Ex → X) : ∀ (e : Ex) (x : X), foldE f x e = (parts e).foldl f x
  | .mk k op v nm kids, x => by rw [foldE, parts, List.foldl_cons, foldL_parts f kids]
theorem foldL_parts {X : Type} (f : X → Ex → X) : ∀ (l : List Ex) (x : X), foldEs f x l = (partsL l).foldl f x
  | [], x => rfl
  | e :: l, x => by rw [foldEs, partsL, List.foldl_append, fold_parts f e, foldL_parts f l]
end
theorem eEs_app (l m : List Ex) : eEs (l ++ m) = eEs l ++ eEs m := by rw [eEs_map, eEs_map, eEs_map, List.map_append]
theorem eEs_row (l : List Ex) : ∀ r ∈ eEs l, r.length = 7 := fun r hr => by
  rw [eEs_map] at hr
  obtain ⟨e, _, rfl⟩ := List.mem_map.1 hr
  cases e
  rfl
end Go.Proofs.YtgbdhakkgnmeoaaGreat.D
namespace Go.Proofs.YtgbdhakkgnmeoaaGreat.D
set_option linter.unusedVariables false
set_option linter.unusedSimpArgs false
open Go Go.Proofs.YtgbdhakkgnmeoaaGreat.D.Pm
set_option maxRecDepth 4000
theorem map_take3 {α β : Type} {f : α → β} {l : List α} {i : Nat} (h : i < l.length) : (l.take (i + 1)).map f = (l.take i).map f ++ [f l[i]] := by
  rw [List.take_add_one, List.getElem?_eq_getElem h, List.map_append]; rfl
/-- the kinds of this program's rows, by their lengths -/
def RT0 : RT := fun sz => if sz = 1 then [.S] else if sz = 2 then [.S, .L 1] else if sz = 3 then [.S, .I, .B] else if sz = 7 then [.I, .I, .I, .I, .S, .S, .L 7]
  else if sz = 12 then [.S, .I, .L 1, .I, .I, .I, .I, .S, .S, .L 7, .S, .L 1] else []
theorem nodesL_len : ∀ l : List Ex, l.length ≤ nodesL l
  | [] => Nat.le_refl _
  | e :: l => by rw [nodesL, List.length_cons]; have := nodesL_len l; have : 1 ≤ nodes e := by cases e; rw [nodes]; omega
                 omega
theorem eE_length (e : Ex) : (eE e).length = 7 := by cases e; rfl
end Go.Proofs.YtgbdhakkgnmeoaaGreat.D
namespace Go.Proofs.YtgbdhakkgnmeoaaGreat.D
set_option linter.unusedVariables false
set_option linter.unusedSimpArgs false
open Go Go.Proofs.YtgbdhakkgnmeoaaGreat.D.Pm
set_option maxRecDepth 4000
def I64 (n : Int) : Prop := (Lit.int .i64 n).wf = true
def wfV (v : Val) : Prop := I64 v.k ∧ I64 v.n ∧ v.s.size ≤ maxLen
mutual
def wfE : Ex → Prop
  | .mk k op v n kids => I64 k ∧ I64 op ∧ wfV v ∧ n.size ≤ maxLen ∧ kids.length ≤ maxLen ∧ wfEs kids
def wfEs : List Ex → Prop
  | [] => True
  | e :: l => wfE e ∧ wfEs l
end
theorem wfEs_of : ∀ {l : List Ex}, (∀ e ∈ l, wfE e) → wfEs l
  | [], _ => trivial
  | e :: l, h => ⟨h e (List.mem_cons_self ..), wfEs_of fun x hx => h x (List.mem_cons_of_mem _ hx)⟩
theorem wfEs_all : ∀ {l : List Ex}, wfEs l → ∀ e ∈ l, wfE e
  | e :: l, h, x, hx => by
    rcases List.mem_cons.1 hx with rfl | hx
    · exact h.1
    · exact wfEs_all h.2 x hx
theorem rdV (m : Nat) : Rd Tryz.prog 27 eV wfV m :=
  (Rd.st (fun a : Int × Int × ByteArray => (⟨a.1, a.2.1, a.2.2⟩ : Val)) (by exact fun a => ⟨rfl, fun h => h⟩) Tryz.underlying27 (by kernel_rfl)
    (RdF.cons (s1 := 1) rfl (by kernel_rfl) (Rd.int Tryz.underlying3) (RdF.cons (s1 := 1) rfl (by kernel_rfl) (Rd.int Tryz.underlying3) (RdF.last (sz := 1) rfl (by kernel_rfl) (Rd.str Tryz.underlying9))))).less
theorem rdE : ∀ m, Rd Tryz.prog 30 eE wfE m
  | 0 => Rd.zero
  | m + 1 => Rd.st (fun a : Int × Int × Val × ByteArray × List Ex => Ex.mk a.1 a.2.1 a.2.2.1 a.2.2.2.1 a.2.2.2.2) (by exact fun a => ⟨by rw [eE, eEs_map]; rfl, fun h => ⟨h.1, h.2.1, h.2.2.1, h.2.2.2.1, h.2.2.2.2.1, wfEs_of h.2.2.2.2.2⟩⟩) Tryz.underlying30 (by kernel_rfl)
      (RdF.cons (s1 := 1) rfl (by kernel_rfl) (Rd.int Tryz.underlying3) (RdF.cons (s1 := 1) rfl (by kernel_rfl) (Rd.int Tryz.underlying3) (RdF.cons (s1 := 3) rfl (by kernel_rfl) (rdV m) (RdF.cons (s1 := 1) rfl (by kernel_rfl) (Rd.str Tryz.underlying9)
        (RdF.last (sz := 1) rfl (by kernel_rfl) (Rd.sl (sz := 7) (by decide) Tryz.underlying28 (by kernel_rfl) (rdE m)))))))
end Go.Proofs.YtgbdhakkgnmeoaaGreat.D
