/- Values, and bytes in their order, in plain words: what the functions of keys come to. -/
import Derived.Test.YtlbjipdkihoojaaQ2
import Derived.Test.YtlbjipdkihoojaaQ3
import Derived.Test.YtlbjipdkihoojaaAux
import Derived.Test.YtlbjipdkihoojaaBy
import Derived.Test.YtlbjipdkihoojaaKey
import Derived.Lib.EndianBits
namespace Go.Proofs.Ytlbjipdkihoojaa.KeysW
set_option linter.unusedVariables false
set_option linter.unusedSimpArgs false
open Go Go.RowKit Go.Proofs.Ytlbjipdkihoojaa.Q Go.Proofs.YtlbjipdkihoojaaW.PrintWords Go.Proofs.Ytlbjipdkihoojaa.Aux Go.Proofs.Ytlbjipdkihoojaa.By

theorem ev_to {α : Type} {g : Nat → Option α} {a b : α} (h : Ev g a) (e : a = b) : Ev g b := e ▸ h
def plainL : List Int → Bool
  | [] => true
  | c :: t => decide (32 ≤ c) && (decide (c ≤ 126) && plainL t)
/-- may a value be? -/
def right (v : S45) : Bool :=
  if v.f0 = 0 then (v.f1 == 0 && (v.f2.toList == ([] : List UInt8)))
  else if v.f0 = 1 then (v.f2.toList == ([] : List UInt8))
  else if v.f0 = 2 then ((v.f2.toList == ([] : List UInt8)) && (v.f1 == 0 || v.f1 == 1))
  else if v.f0 = 3 then (v.f1 == 0 && (decide (v.f2.size ≤ 32) && plainL (B v.f2)))
  else false
theorem B_at (s : ByteArray) (i : Nat) (h : i < (B s).length) : bt s (i : Int) = (B s)[i] := by
  rw [bt_B, Int.toNat_natCast, List.getD_eq_getElem?_getD, List.getElem?_eq_getElem h, Option.getD_some]
theorem rd_at (l : List S45) (i : Nat) (h : i < l.length) : rd_T45 l (i : Int) = l[i] := by
  simp [rd_T45, List.getD_eq_getElem?_getD, h]
theorem plain_l (s : ByteArray) (hs : s.size ≤ 1000) : ∀ (m n : Nat), n + m = s.size → Ev (fun k => value_plain.l0 k s s.size n) (plainL ((B s).drop n))
  | m, n, hn => by
    have hb := B_size s
    refine Ev.step (fun k => value_plain.l0.eq_2 ..) ?_
    cases m with
    | zero =>
      refine ev_neg (by omega) ?_
      rw [List.drop_eq_nil_of_le (by omega)]
      exact Ev.now _
    | succ m =>
      refine ev_pos (by omega) ?_
      refine ev_pos (by omega) ?_
      refine ev_pos (by omega) ?_
      rw [B_at s n (by omega), List.drop_eq_getElem_cons (by omega : n < (B s).length)]
      simp only [plainL]
      by_cases h1 : (B s)[n]'(by omega) < 32
      · refine ev_pos h1 ?_
        refine ev_to (Ev.now _) ?_
        simp [show ¬ (32 : Int) ≤ (B s)[n]'(by omega) by omega]
      · refine ev_neg h1 ?_
        by_cases h2 : (B s)[n]'(by omega) > 126
        · refine ev_pos h2 ?_
          refine ev_to (Ev.now _) ?_
          simp [show ¬ (B s)[n]'(by omega) ≤ 126 by omega]
        · refine ev_neg h2 ?_
          rw [wrap_in (by omega) (by omega)]
          refine ev_to (plain_l s hs m (n + 1) (by omega)) ?_
          simp [show (B s)[n]'(by omega) ≤ 126 by omega, show (32 : Int) ≤ (B s)[n]'(by omega) by omega]
theorem right_f (v : S45) : Ev (fun k => value_Right.f k v.f0 v.f1 v.f2) (right v) := by
  unfold value_Right.f right
  by_cases h0 : v.f0 = 0
  · refine ev_pos h0 ?_
    refine ev_to (Ev.now _) ?_
    simp [h0]
  · refine ev_neg h0 ?_
    rw [if_neg h0]
    by_cases h1 : v.f0 = 1
    · refine ev_pos h1 ?_
      rw [if_pos h1]
      exact Ev.now _
    · refine ev_neg h1 ?_
      rw [if_neg h1]
      by_cases h2 : v.f0 = 2
      · refine ev_pos h2 ?_
        rw [if_pos h2]
        by_cases ht : v.f2.toList = ([] : List UInt8)
        · refine ev_pos ht ?_
          by_cases h3 : v.f1 = 0
          · refine ev_pos h3 ?_
            refine ev_to (Ev.now _) ?_
            simp [ht, h3]
          · refine ev_neg h3 ?_
            refine ev_to (Ev.now _) ?_
            simp [ht, h3]
        · refine ev_neg ht ?_
          refine ev_to (Ev.now _) ?_
          simp [ht]
      · refine ev_neg h2 ?_
        rw [if_neg h2]
        by_cases h3 : v.f0 = 3
        · refine ev_pos h3 ?_
          rw [if_pos h3]
          by_cases h4 : v.f1 = 0
          · refine ev_pos h4 ?_
            by_cases h5 : v.f2.size ≤ 32
            · refine ev_pos (by omega) ?_
              have := plain_l v.f2 (by omega) v.f2.size 0 (by omega)
              refine Ev.bind this ?_
              refine ev_to (Ev.now _) ?_
              simp [h4, h5]
            · refine ev_neg (by omega) ?_
              refine ev_to (Ev.now _) ?_
              simp [h5]
          · refine ev_neg h4 ?_
            refine ev_to (Ev.now _) ?_
            simp [h4]
        · refine ev_neg h3 ?_
          rw [if_neg h3]
          exact Ev.now _
/-- too many values, or too long ones? -/
def large (l : List S45) : Bool := decide (l.length > 10) || l.any (fun v => decide (v.f2.size > 200))
theorem large_l (l : List S45) (hl : l.length ≤ maxLen) : ∀ (m i : Nat), i + m = 10 → i ≤ l.length → Ev (fun k => registrarlaw04_large.l0 k l i) (decide (l.length > 10) || (l.drop i).any (fun v => decide (v.f2.size > 200)))
  | m, i, hi, hil => by
    refine Ev.step (fun k => registrarlaw04_large.l0.eq_2 ..) ?_
    by_cases h : i < l.length
    · refine ev_pos (by omega) ?_
      cases m with
      | zero =>
        refine ev_pos (by omega) ?_
        refine ev_to (Ev.now _) ?_
        have : l.length > 10 := by omega
        simp [this]
      | succ m =>
        refine ev_neg (by omega) ?_
        refine ev_pos (by omega) ?_
        rw [rd_at l i h, List.drop_eq_getElem_cons h, List.any_cons]
        by_cases h2 : l[i].f2.size > 200
        · refine ev_pos (by omega) ?_
          refine ev_to (Ev.now _) ?_
          simp [h2]
        · refine ev_neg (by omega) ?_
          rw [wrap_in (by omega) (by omega)]
          refine ev_to (large_l l hl m (i + 1) (by omega) (by omega)) ?_
          simp [h2]
    · refine ev_neg (by omega) ?_
      refine ev_to (Ev.now _) ?_
      rw [List.drop_eq_nil_of_le (by omega)]
      have : ¬ l.length > 10 := by omega
      simp [this]
theorem large_f (l : List S45) (hl : l.length ≤ maxLen) : Ev (fun k => registrarlaw04_large.f k l) (large l) := large_l l hl 10 0 (by omega) (by omega)
theorem large_not {l : List S45} (h : ¬ large l = true) : l.length ≤ 10 ∧ ∀ v ∈ l, v.f2.size ≤ 200 := by
  simp only [large, Bool.or_eq_true, decide_eq_true_eq, List.any_eq_true, not_or, not_exists, not_and] at h
  exact ⟨by omega, fun v hv => by have := h.2 v hv; omega⟩
theorem wrap_u64 {x : Int} (h0 : 0 ≤ x) (h1 : x < 18446744073709551616) : IntKind.u64.wrap x = x := by
  rw [IntKind.wrap_u64]
  omega
def in64 (x : Int) : Prop := -9223372036854775808 ≤ x ∧ x ≤ 9223372036854775807
theorem in64_wf {n : Int} (h : (Lit.int .i64 n).wf = true) : in64 n := by
  simp [Lit.wf, IntKind.min, IntKind.max, IntKind.bits, IntKind.signed] at h
  unfold in64
  omega
theorem right_kind {v : S45} (h : right v = true) : 0 ≤ v.f0 ∧ v.f0 ≤ 3 := by
  unfold right at h
  split at h
  · omega
  · split at h
    · omega
    · split at h
      · omega
      · split at h
        · omega
        · exact absurd h (by simp)
theorem right_size {v : S45} (h : right v = true) (h3 : v.f0 = 3) : v.f2.size ≤ 32 := by
  unfold right at h
  rw [if_neg (by omega), if_neg (by omega), if_neg (by omega), if_pos h3] at h
  simp only [Bool.and_eq_true, decide_eq_true_eq] at h
  exact h.2.1
theorem same_l (a b : List Int) (h : a.length = b.length) (ha : a.length ≤ 100000) : ∀ (m i : Nat), i + m = a.length → Ev (fun k => registrarref04_Same.l0 k a b i) (decide (a.drop i = b.drop i))
  | m, i, hi => by
    refine Ev.step (fun k => registrarref04_Same.l0.eq_2 ..) ?_
    cases m with
    | zero =>
      refine ev_neg (by omega) ?_
      rw [List.drop_eq_nil_of_le (by omega), List.drop_eq_nil_of_le (by omega)]
      exact Ev.now _
    | succ m =>
      refine ev_pos (by omega) ?_
      refine ev_pos (by omega) ?_
      refine ev_pos (by omega) ?_
      have e1 : rd a (i : Int) = a[i]'(by omega) := by simp [rd, List.getD_eq_getElem?_getD, show i < a.length by omega]
      have e2 : rd b (i : Int) = b[i]'(by omega) := by simp [rd, List.getD_eq_getElem?_getD, show i < b.length by omega]
      rw [e1, e2, List.drop_eq_getElem_cons (by omega : i < a.length), List.drop_eq_getElem_cons (by omega : i < b.length)]
      by_cases hh : a[i]'(by omega) = b[i]'(by omega)
      · refine ev_pos hh ?_
        rw [wrap_in (by omega) (by omega)]
        refine ev_to (same_l a b h ha m (i + 1) (by omega)) ?_
        simp only [List.cons.injEq, hh, true_and]
      · refine ev_neg hh ?_
        refine ev_to (Ev.now _) ?_
        simp only [List.cons.injEq, hh, false_and, decide_false]
theorem same_f (a b : List Int) (ha : a.length ≤ 100000) : Ev (fun k => registrarref04_Same.f k a b) (decide (a = b)) := by
  unfold registrarref04_Same.f
  by_cases h : a.length = b.length
  · refine ev_pos (by omega) ?_
    exact same_l a b h ha a.length 0 (by omega)
  · refine ev_neg (by omega) ?_
    refine ev_to (Ev.now _) ?_
    symm
    rw [decide_eq_false_iff_not]
    intro e
    exact h (congrArg List.length e)
def sameV (a b : S45) : Bool := (a.f0 == b.f0) && ((a.f1 == b.f1) && (a.f2.toList == b.f2.toList))
theorem sameV_iff {a b : S45} : sameV a b = true ↔ a = b := by
  unfold sameV
  simp only [Bool.and_eq_true, beq_iff_eq, toList_eq_iff]
  constructor
  · rintro ⟨h1, h2, h3⟩
    cases a
    cases b
    simp_all
  · rintro rfl
    exact ⟨rfl, rfl, rfl⟩
def sameL : List S45 → List S45 → Bool
  | [], [] => true
  | x :: a, y :: b => sameV x y && sameL a b
  | _, _ => false
theorem sameL_iff : ∀ {a b : List S45}, sameL a b = true ↔ a = b
  | [], [] => by simp [sameL]
  | [], y :: b => by simp [sameL]
  | x :: a, [] => by simp [sameL]
  | x :: a, y :: b => by
    have := sameL_iff (a := a) (b := b)
    simp only [sameL, Bool.and_eq_true, sameV_iff, this, List.cons.injEq]
theorem not_sameV (x y : S45) : ((!(x.f0 == y.f0)) || ((!(x.f1 == y.f1)) || (!(x.f2.toList == y.f2.toList)))) = !(sameV x y) := by
  unfold sameV
  simp only [Bool.not_and]
theorem sameL_length {a b : List S45} (h : ¬ a.length = b.length) : sameL a b = false := by
  rw [Bool.eq_false_iff]
  intro h1
  exact h (congrArg List.length (sameL_iff.1 h1))
/-- a value's bytes -/
def oneB (v : S45) : List Int :=
  if v.f0 = 1 then X.key9 v.f1 else if v.f0 = 2 then [3, v.f1 % 256] else if v.f0 = 3 then 4 :: (B v.f2 ++ [0]) else [1]
def bodyB : List S45 → List Int
  | [] => []
  | v :: t => oneB v ++ bodyB t
def put (l : List S45) : List Int × Int := if l.length > 6 then ([], 3) else if l.all right then (bodyB l, 0) else ([], 2)
theorem oneB_len {v : S45} (hr : right v = true) : (oneB v).length ≤ 40 := by
  unfold oneB
  split
  · rw [X.key9_len]; omega
  · split
    · simp
    · split
      · rename_i h3
        have := right_size hr h3
        have := B_size v.f2
        simp
        omega
      · simp
theorem bodyB_len : ∀ {l : List S45}, l.all right = true → (bodyB l).length ≤ 40 * l.length
  | [], _ => by simp [bodyB]
  | v :: t, h => by
    rw [List.all_cons, Bool.and_eq_true] at h
    have h1 := oneB_len h.1
    have h2 := bodyB_len h.2
    simp only [bodyB, List.length_append, List.length_cons]
    omega
theorem put_len (l : List S45) : (put l).1.length ≤ 240 := by
  unfold put
  split
  · simp
  · split
    · rename_i h h1
      have := bodyB_len h1
      simp only
      omega
    · simp
theorem put_l (l : List S45) (hl : l.length ≤ 6) : ∀ (m i : Nat) (acc : List Int), i + m = l.length → acc.length ≤ 40 * i → Ev (fun k => keys_Put.l0 k acc l l.length i) (if (l.drop i).all right then (acc ++ bodyB (l.drop i), 0) else ([], 2))
  | m, i, acc, hi, ha => by
    refine Ev.step (fun k => keys_Put.l0.eq_2 ..) ?_
    cases m with
    | zero =>
      refine ev_neg (by omega) ?_
      rw [List.drop_eq_nil_of_le (by omega)]
      refine ev_to (Ev.now _) ?_
      simp [bodyB]
    | succ m =>
      have hlt : i < l.length := by omega
      rw [rd_at l i hlt, List.drop_eq_getElem_cons hlt, List.all_cons]
      simp only [bodyB]
      have hw : wrap64 ((i : Int) + 1) = ((i + 1 : Nat) : Int) := by rw [wrap_in (by omega) (by omega)]; omega
      obtain ⟨v, hv⟩ : ∃ v, l[i] = v := ⟨_, rfl⟩
      rw [hv, hw]
      refine ev_pos (by omega) ?_
      refine ev_pos (by omega) ?_
      refine ev_pos (by omega) ?_
      refine Ev.bind (right_f v) ?_
      by_cases hr : right v = true
      · have hlen := oneB_len hr
        have hk := right_kind hr
        have ih := fun h => put_l l hl m (i + 1) (acc ++ oneB v) (by omega) h
        refine ev_pos hr ?_
        rw [hr, Bool.true_and, ← List.append_assoc]
        by_cases h0 : v.f0 = 0
        · have e : oneB v = [1] := by simp [oneB, h0]
          rw [e] at ih ⊢
          refine ev_pos h0 ?_
          refine ev_pos (by omega) ?_
          exact ih (by simp only [List.length_append, List.length_cons, List.length_nil]; omega)
        · refine ev_neg h0 ?_
          by_cases h1 : v.f0 = 1
          · have e : oneB v = X.key9 v.f1 := by simp [oneB, h1]
            have hl9 := X.key9_len v.f1
            rw [e] at ih ⊢
            refine ev_pos h1 ?_
            refine ev_one rfl ?_
            refine ev_pos (by omega) ?_
            exact ih (by simp only [List.length_append]; omega)
          · refine ev_neg h1 ?_
            by_cases h2 : v.f0 = 2
            · have e : oneB v = [3, v.f1 % 256] := by simp [oneB, h2]
              rw [e] at ih ⊢
              refine ev_pos h2 ?_
              refine ev_one rfl ?_
              refine ev_pos (by simp only [List.length_cons, List.length_nil]; omega) ?_
              exact ih (by simp only [List.length_append, List.length_cons, List.length_nil]; omega)
            · have h3 : v.f0 = 3 := by omega
              have e : oneB v = 4 :: (B v.f2 ++ [0]) := by simp [oneB, h3]
              have hs := right_size hr h3
              have hb := B_size v.f2
              have hb2 : (bytesOf v.f2).length = v.f2.size := bytesOf_length _
              rw [e] at ih ⊢
              refine ev_neg h2 ?_
              refine ev_pos h3 ?_
              refine ev_pos (by omega) ?_
              refine ev_one rfl ?_
              refine ev_pos (by simp only [List.length_append, List.length_cons, List.length_nil]; omega) ?_
              refine ev_one rfl ?_
              refine ev_pos (by simp only [List.length_append, List.length_cons, List.length_nil]; omega) ?_
              have hal : (acc ++ 4 :: (B v.f2 ++ [0])).length ≤ 40 * (i + 1) := by simp only [List.length_append, List.length_cons, List.length_nil]; omega
              have := ih hal
              have e2 : acc ++ 4 :: (B v.f2 ++ [0]) = acc ++ [4] ++ bytesOf v.f2 ++ [0] := by simp
              rw [e2] at this ⊢
              exact this
      · refine ev_neg hr ?_
        refine ev_to (Ev.now _) ?_
        simp [hr]
theorem put_f (l : List S45) (hl : l.length ≤ 1000) : Ev (fun k => keys_Put.f k l) (put l) := by
  unfold keys_Put.f put
  by_cases h : l.length > 6
  · refine ev_pos (by omega) ?_
    rw [if_pos h]
    exact Ev.now _
  · refine ev_neg (by omega) ?_
    rw [if_neg h]
    have := put_l l (by omega) l.length 0 [] (by omega) (by simp)
    rw [List.drop_zero, List.nil_append] at this
    exact this
end Go.Proofs.Ytlbjipdkihoojaa.KeysW
