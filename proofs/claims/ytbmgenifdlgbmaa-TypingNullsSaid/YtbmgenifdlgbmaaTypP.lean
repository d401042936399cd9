/- Types of trees, in plain words; what a parameter that is a Null turns in them. No program. -/
import Derived.Test.YtbmgenifdlgbmaaQ0
import Derived.Test.YtbmgenifdlgbmaaAux
import Derived.Test.YtbmgenifdlgbmaaBy
namespace Go.Proofs.Ytbmgenifdlgbmaa.TypE
set_option linter.unusedVariables false
set_option linter.unusedSimpArgs false
open Go Go.RowKit Go.Proofs.Ytbmgenifdlgbmaa.Q Go.Proofs.YtbmgenifdlgbmaaW.PrintWords Go.Proofs.Ytbmgenifdlgbmaa.Aux Go.Proofs.Ytbmgenifdlgbmaa.By

/-- the type at a place of a list -/
def oneP (l : List Int) (a : Int) : Int × Int :=
  if a < 0 ∨ (l.length : Int) ≤ a then (0, 37) else if rd l a < 0 ∨ rd l a > 3 then (0, 11) else (rd l a, 0)
/-- do types agree, and in which? -/
def agreeL : Int → List Int → Int × Bool
  | t, [] => (t, true)
  | t, x :: l => if x ≠ 0 ∧ t ≠ 0 ∧ x ≠ t then (0, false) else agreeL (if t = 0 then x else t) l
def agreeP (l : List Int) : Int × Bool := agreeL 0 l
def takesP (w : Int) (l : List Int) : Bool := (agreeP (w :: l)).2
def inP (a : Int) : List Int → Int × Bool
  | [] => (2, true)
  | x :: l => if (agreeP [a, x]).2 = true then inP a l else (0, false)
def calledP (name : ByteArray) (l : List Int) : Int × Bool :=
  if name.toList = ([108, 101, 110, 103, 116, 104] : List UInt8) then (1, takesP 3 l) else if name.toList = ([97, 98, 115] : List UInt8) then (1, takesP 1 l) else agreeP l
def signedP (kind op : Int) (l : List Int) : Int × Bool :=
  if kind = 4 ∧ (op = 3 ∨ op = 4) then (2, true)
  else if (kind = 4 ∧ op = 2) ∨ (kind = 5 ∧ op ≤ 2) then (2, takesP 2 l)
  else if kind = 5 ∧ op = 14 then (3, takesP 3 l)
  else if kind = 5 ∧ op ≤ 8 then (2, (agreeP l).2) else (1, takesP 1 l)
def madeP (x : S26) (l : List Int) : Int × Bool :=
  if x.f0 = 6 then inP (rd l 0) (l.drop 1)
  else if x.f0 = 7 then calledP x.f3 l
  else if x.f0 = 4 ∨ x.f0 = 5 then signedP x.f0 x.f1 l else (0, false)
def kidsP (g : S26 → Int × Int) (x : S26) : List Int → List S26 → Int × Int
  | acc, [] => if (madeP x acc).2 = true then ((madeP x acc).1, 0) else (0, 11)
  | acc, y :: t => if (g y).2 = 0 then kidsP g x (acc ++ [(g y).1]) t else (0, (g y).2)
def typP (cols ps : List Int) : Nat → S26 → Int × Int
  | 0, _ => (0, 0)
  | m + 1, x =>
    if x.f0 = 1 then (x.f2.f0, 0) else if x.f0 = 8 then oneP cols x.f1 else if x.f0 = 3 then oneP ps (wrap64 (x.f1 - 1)) else if x.f0 = 2 then (0, 4)
    else kidsP (typP cols ps m) x [] x.f4

/-- each type is as it was, or Null -/
def Lt : List Int → List Int → Prop
  | [], [] => True
  | a :: l, b :: m => (b = a ∨ b = 0) ∧ Lt l m
  | _, _ => False
theorem Lt.refl : ∀ l, Lt l l
  | [] => trivial
  | a :: l => ⟨.inl rfl, Lt.refl l⟩
theorem Lt.snoc : ∀ {l m : List Int} {a b : Int}, Lt l m → (b = a ∨ b = 0) → Lt (l ++ [a]) (m ++ [b])
  | [], [], a, b, _, h => ⟨h, trivial⟩
  | x :: l, y :: m, a, b, h, k => ⟨h.1, Lt.snoc h.2 k⟩
  | [], y :: m, _, _, h, _ => h.elim
  | x :: l, [], _, _, h, _ => h.elim
theorem agreeL_mono : ∀ (l m : List Int) (t u : Int), Lt l m → (u = t ∨ u = 0) → (agreeL t l).2 = true → (agreeL u m).2 = true ∧ ((agreeL u m).1 = (agreeL t l).1 ∨ (agreeL u m).1 = 0)
  | [], [], t, u, _, hu, _ => ⟨rfl, hu⟩
  | x :: l, y :: m, t, u, h, hu, ho => by
    obtain ⟨hy, hl⟩ := h
    simp only [agreeL] at ho ⊢
    by_cases hc : x ≠ 0 ∧ t ≠ 0 ∧ x ≠ t
    · rw [if_pos hc] at ho
      exact absurd ho (by simp)
    · rw [if_neg hc] at ho ⊢
      have hc2 : ¬ (y ≠ 0 ∧ u ≠ 0 ∧ y ≠ u) := by
        rintro ⟨h1, h2, h3⟩
        rcases hy with rfl | rfl
        · rcases hu with rfl | rfl
          · exact hc ⟨h1, h2, h3⟩
          · exact h2 rfl
        · exact h1 rfl
      rw [if_neg hc2]
      refine agreeL_mono l m _ _ hl ?_ ho
      by_cases hu0 : u = 0
      · rw [if_pos hu0]
        by_cases ht : t = 0
        · rw [if_pos ht]
          exact hy
        · rw [if_neg ht]
          rcases hy with rfl | rfl
          · by_cases hx : y = 0
            · exact .inr hx
            · left
              by_cases hxt : y = t
              · exact hxt
              · exact absurd ⟨hx, ht, hxt⟩ hc
          · exact .inr rfl
      · rw [if_neg hu0]
        rcases hu with rfl | rfl
        · rw [if_neg hu0]
          exact .inl rfl
        · exact absurd rfl hu0
  | [], y :: m, _, _, h, _, _ => h.elim
  | x :: l, [], _, _, h, _, _ => h.elim
theorem takes_mono {w : Int} {l m : List Int} (h : Lt l m) (ho : takesP w l = true) : takesP w m = true := (agreeL_mono (w :: l) (w :: m) 0 0 ⟨.inl rfl, h⟩ (.inl rfl) ho).1
theorem in_mono : ∀ {l m : List Int} {a b : Int}, Lt l m → (b = a ∨ b = 0) → (inP a l).2 = true → inP b m = (2, true) ∧ inP a l = (2, true)
  | [], [], a, b, _, _, _ => ⟨rfl, rfl⟩
  | x :: l, y :: m, a, b, h, hb, ho => by
    simp only [inP] at ho ⊢
    by_cases hc : (agreeP [a, x]).2 = true
    · rw [if_pos hc] at ho ⊢
      have h2 : (agreeP [b, y]).2 = true := (agreeL_mono [a, x] [b, y] 0 0 ⟨hb, h.1, trivial⟩ (.inl rfl) hc).1
      rw [if_pos h2]
      exact in_mono h.2 hb ho
    · rw [if_neg hc] at ho
      exact absurd ho (by simp)
  | [], y :: m, _, _, h, _, _ => h.elim
  | x :: l, [], _, _, h, _, _ => h.elim
theorem made_mono (x : S26) {l m : List Int} (h : Lt l m) (ho : (madeP x l).2 = true) : (madeP x m).2 = true ∧ ((madeP x m).1 = (madeP x l).1 ∨ (madeP x m).1 = 0) := by
  unfold madeP at ho ⊢
  by_cases h6 : x.f0 = 6
  · simp only [if_pos h6] at ho ⊢
    have hd : Lt (l.drop 1) (m.drop 1) ∧ (rd m 0 = rd l 0 ∨ rd m 0 = 0) := by
      match l, m, h with
      | [], [], _ => exact ⟨trivial, .inl rfl⟩
      | a :: l, b :: m, h => exact ⟨h.2, h.1⟩
    obtain ⟨e1, e2⟩ := in_mono hd.1 hd.2 ho
    rw [e1, e2]
    exact ⟨rfl, .inl rfl⟩
  · simp only [if_neg h6] at ho ⊢
    by_cases h7 : x.f0 = 7
    · simp only [if_pos h7] at ho ⊢
      unfold calledP at ho ⊢
      by_cases hn : x.f3.toList = ([108, 101, 110, 103, 116, 104] : List UInt8)
      · simp only [if_pos hn] at ho ⊢
        exact ⟨takes_mono h ho, .inl trivial⟩
      · simp only [if_neg hn] at ho ⊢
        by_cases ha : x.f3.toList = ([97, 98, 115] : List UInt8)
        · simp only [if_pos ha] at ho ⊢
          exact ⟨takes_mono h ho, .inl trivial⟩
        · simp only [if_neg ha] at ho ⊢
          exact agreeL_mono l m 0 0 h (.inl rfl) ho
    · simp only [if_neg h7] at ho ⊢
      by_cases h45 : x.f0 = 4 ∨ x.f0 = 5
      · simp only [if_pos h45] at ho ⊢
        unfold signedP at ho ⊢
        by_cases c1 : x.f0 = 4 ∧ (x.f1 = 3 ∨ x.f1 = 4)
        · simp only [if_pos c1] at ho ⊢
          exact ⟨trivial, .inl trivial⟩
        · simp only [if_neg c1] at ho ⊢
          by_cases c2 : (x.f0 = 4 ∧ x.f1 = 2) ∨ (x.f0 = 5 ∧ x.f1 ≤ 2)
          · simp only [if_pos c2] at ho ⊢
            exact ⟨takes_mono h ho, .inl trivial⟩
          · simp only [if_neg c2] at ho ⊢
            by_cases c3 : x.f0 = 5 ∧ x.f1 = 14
            · simp only [if_pos c3] at ho ⊢
              exact ⟨takes_mono h ho, .inl trivial⟩
            · simp only [if_neg c3] at ho ⊢
              by_cases c4 : x.f0 = 5 ∧ x.f1 ≤ 8
              · simp only [if_pos c4] at ho ⊢
                exact ⟨(agreeL_mono l m 0 0 h (.inl rfl) ho).1, .inl trivial⟩
              · simp only [if_neg c4] at ho ⊢
                exact ⟨takes_mono h ho, .inl trivial⟩
      · simp only [if_neg h45] at ho
        exact absurd ho (by simp)
/-- what may become of a type, or of an error -/
def R (p q : Int × Int) : Prop := (p.2 = 0 → q.2 = 0 ∧ (q.1 = p.1 ∨ q.1 = 0)) ∧ (p.2 = 37 → q.2 = 37)
theorem R.refl (p : Int × Int) : R p p := ⟨fun h => ⟨h, .inl rfl⟩, fun h => h⟩
theorem kids_R {g h : S26 → Int × Int} (x : S26) (hg : ∀ y, R (g y) (h y)) : ∀ (l : List S26) (acc bcc : List Int), Lt acc bcc → R (kidsP g x acc l) (kidsP h x bcc l)
  | [], acc, bcc, hl => by
    simp only [kidsP]
    by_cases ho : (madeP x acc).2 = true
    · obtain ⟨h1, h2⟩ := made_mono x hl ho
      rw [if_pos ho, if_pos h1]
      exact ⟨fun _ => ⟨rfl, h2⟩, fun h => absurd h (by simp)⟩
    · rw [if_neg ho]
      exact ⟨fun h => absurd h (by simp), fun h => absurd h (by simp)⟩
  | y :: l, acc, bcc, hl => by
    simp only [kidsP]
    have hy := hg y
    by_cases h0 : (g y).2 = 0
    · obtain ⟨h1, h2⟩ := hy.1 h0
      rw [if_pos h0, if_pos h1]
      exact kids_R x hg l _ _ (Lt.snoc hl h2)
    · rw [if_neg h0]
      refine ⟨fun h => absurd h h0, fun h => ?_⟩
      have h37 := hy.2 h
      rw [if_neg (by rw [h37]; decide)]
      exact h37
theorem typ_R {cols ps qs : List Int} (hone : ∀ a, R (oneP ps a) (oneP qs a)) : ∀ (m : Nat) (x : S26), R (typP cols ps m x) (typP cols qs m x)
  | 0, x => R.refl _
  | m + 1, x => by
    simp only [typP]
    by_cases h1 : x.f0 = 1
    · simp only [if_pos h1]
      exact R.refl _
    · simp only [if_neg h1]
      by_cases h8 : x.f0 = 8
      · simp only [if_pos h8]
        exact R.refl _
      · simp only [if_neg h8]
        by_cases h3 : x.f0 = 3
        · simp only [if_pos h3]
          exact hone _
        · simp only [if_neg h3]
          by_cases h2 : x.f0 = 2
          · simp only [if_pos h2]
            exact R.refl _
          · simp only [if_neg h2]
            exact kids_R x (typ_R hone m) x.f4 [] [] trivial
theorem one_R (ps : List Int) (i : Nat) (a : Int) : R (oneP ps a) (oneP (ps.set i 0) a) := by
  unfold oneP
  rw [List.length_set]
  by_cases hb : a < 0 ∨ (ps.length : Int) ≤ a
  · rw [if_pos hb, if_pos hb]
    exact R.refl _
  · rw [if_neg hb, if_neg hb]
    obtain ⟨j, rfl⟩ := Int.eq_ofNat_of_zero_le (show 0 ≤ a by omega)
    have hj : j < ps.length := by omega
    by_cases hij : i = j
    · subst hij
      have e : rd (ps.set i 0) (i : Int) = 0 := by simp [rd, List.getD_eq_getElem?_getD, hj]
      have hR : (if (0 : Int) < 0 ∨ (0 : Int) > 3 then ((0 : Int), (11 : Int)) else (0, 0)) = (0, 0) := by simp
      rw [e, hR]
      by_cases hc : rd ps (i : Int) < 0 ∨ rd ps (i : Int) > 3
      · rw [if_pos hc]
        exact ⟨fun h => absurd h (by simp), fun h => absurd h (by simp)⟩
      · rw [if_neg hc]
        exact ⟨fun _ => ⟨rfl, .inr rfl⟩, fun h => absurd h (by simp)⟩
    · have e : rd (ps.set i 0) (j : Int) = rd ps (j : Int) := by simp [rd, List.getD_eq_getElem?_getD, List.getElem?_set_ne hij]
      rw [e]
      exact R.refl _
end Go.Proofs.Ytbmgenifdlgbmaa.TypE
