/- Rows as bytes, in plain words, and what the functions that put come to (without the document's own). -/
import Derived.Test.YtlbjipdkihoojaaQ2
import Derived.Test.YtlbjipdkihoojaaQ3
import Derived.Test.YtlbjipdkihoojaaQ4
import Derived.Test.YtlbjipdkihoojaaAux
import Derived.Test.YtlbjipdkihoojaaBy
import Derived.Lib.Zigzag
import Derived.Lib.EndianBits
namespace Go.Proofs.Ytlbjipdkihoojaa.RowsW
set_option linter.unusedVariables false
set_option linter.unusedSimpArgs false
open Go Go.RowKit Go.Proofs.Ytlbjipdkihoojaa.Q Go.Proofs.YtlbjipdkihoojaaW.PrintWords Go.Proofs.Ytlbjipdkihoojaa.Aux Go.Proofs.Ytlbjipdkihoojaa.By

theorem ev_to {α : Type} {g : Nat → Option α} {a b : α} (h : Ev g a) (e : a = b) : Ev g b := e ▸ h
def plainL : List Int → Bool
  | [] => true
  | c :: t => decide (32 ≤ c) && (decide (c ≤ 126) && plainL t)
/-- may a value be? -/
def right (v : S45) : Bool :=
  if v.f0 = 0 then (v.f1 == 0 && (v.f2.toList == ([] : List UInt8)))
  else if v.f0 = 1 then (v.f2.toList == ([] : List UInt8))
  else if v.f0 = 2 then ((v.f2.toList == ([] : List UInt8)) && (v.f1 == 0 || v.f1 == 1))
  else if v.f0 = 3 then (v.f1 == 0 && (decide (v.f2.size ≤ 32) && plainL (B v.f2)))
  else false
theorem B_at (s : ByteArray) (i : Nat) (h : i < (B s).length) : bt s (i : Int) = (B s)[i] := by
  rw [bt_B, Int.toNat_natCast, List.getD_eq_getElem?_getD, List.getElem?_eq_getElem h, Option.getD_some]
theorem rd_at (l : List S45) (i : Nat) (h : i < l.length) : rd_T45 l (i : Int) = l[i] := by
  simp [rd_T45, List.getD_eq_getElem?_getD, h]
theorem plain_l (s : ByteArray) (hs : s.size ≤ 1000) : ∀ (m n : Nat), n + m = s.size → Ev (fun k => value_plain.l0 k s s.size n) (plainL ((B s).drop n))
  | m, n, hn => by
    have hb := B_size s
    refine Ev.step (fun k => value_plain.l0.eq_2 ..) ?_
    cases m with
    | zero =>
      refine ev_neg (by omega) ?_
      rw [List.drop_eq_nil_of_le (by omega)]
      exact Ev.now _
    | succ m =>
      refine ev_pos (by omega) ?_
      refine ev_pos (by omega) ?_
      refine ev_pos (by omega) ?_
      rw [B_at s n (by omega), List.drop_eq_getElem_cons (by omega : n < (B s).length)]
      simp only [plainL]
      by_cases h1 : (B s)[n]'(by omega) < 32
      · refine ev_pos h1 ?_
        refine ev_to (Ev.now _) ?_
        simp [show ¬ (32 : Int) ≤ (B s)[n]'(by omega) by omega]
      · refine ev_neg h1 ?_
        by_cases h2 : (B s)[n]'(by omega) > 126
        · refine ev_pos h2 ?_
          refine ev_to (Ev.now _) ?_
          simp [show ¬ (B s)[n]'(by omega) ≤ 126 by omega]
        · refine ev_neg h2 ?_
          rw [wrap_in (by omega) (by omega)]
          refine ev_to (plain_l s hs m (n + 1) (by omega)) ?_
          simp [show (B s)[n]'(by omega) ≤ 126 by omega, show (32 : Int) ≤ (B s)[n]'(by omega) by omega]
theorem right_f (v : S45) : Ev (fun k => value_Right.f k v.f0 v.f1 v.f2) (right v) := by
  unfold value_Right.f right
  by_cases h0 : v.f0 = 0
  · refine ev_pos h0 ?_
    refine ev_to (Ev.now _) ?_
    simp [h0]
  · refine ev_neg h0 ?_
    rw [if_neg h0]
    by_cases h1 : v.f0 = 1
    · refine ev_pos h1 ?_
      rw [if_pos h1]
      exact Ev.now _
    · refine ev_neg h1 ?_
      rw [if_neg h1]
      by_cases h2 : v.f0 = 2
      · refine ev_pos h2 ?_
        rw [if_pos h2]
        by_cases ht : v.f2.toList = ([] : List UInt8)
        · refine ev_pos ht ?_
          by_cases h3 : v.f1 = 0
          · refine ev_pos h3 ?_
            refine ev_to (Ev.now _) ?_
            simp [ht, h3]
          · refine ev_neg h3 ?_
            refine ev_to (Ev.now _) ?_
            simp [ht, h3]
        · refine ev_neg ht ?_
          refine ev_to (Ev.now _) ?_
          simp [ht]
      · refine ev_neg h2 ?_
        rw [if_neg h2]
        by_cases h3 : v.f0 = 3
        · refine ev_pos h3 ?_
          rw [if_pos h3]
          by_cases h4 : v.f1 = 0
          · refine ev_pos h4 ?_
            by_cases h5 : v.f2.size ≤ 32
            · refine ev_pos (by omega) ?_
              have := plain_l v.f2 (by omega) v.f2.size 0 (by omega)
              refine Ev.bind this ?_
              refine ev_to (Ev.now _) ?_
              simp [h4, h5]
            · refine ev_neg (by omega) ?_
              refine ev_to (Ev.now _) ?_
              simp [h5]
          · refine ev_neg h4 ?_
            refine ev_to (Ev.now _) ?_
            simp [h4]
        · refine ev_neg h3 ?_
          rw [if_neg h3]
          exact Ev.now _
/-- the first that may not be, or none -/
theorem index_l (l : List S45) (hl : l.length ≤ 1000) : ∀ (m n : Nat), n + m = l.length → ∃ r : Int, Ev (fun k => slices_IndexFunc__api_Value_api_Value_c36.l0 k l l.length n) r ∧ decide (r ≥ 0) = !((l.drop n).all right)
  | m, n, hn => by
    cases m with
    | zero =>
      refine ⟨-1, ?_, ?_⟩
      · refine Ev.step (fun k => slices_IndexFunc__api_Value_api_Value_c36.l0.eq_2 ..) ?_
        refine ev_neg (by omega) ?_
        exact Ev.now _
      · rw [List.drop_eq_nil_of_le (by omega)]
        rfl
    | succ m =>
      have hlt : n < l.length := by omega
      have hd := List.drop_eq_getElem_cons hlt
      have hr := right_f l[n]
      have hc : Ev (fun k => rows_Check_1.f k l[n].f0 l[n].f1 l[n].f2) (!(right l[n])) := by
        unfold rows_Check_1.f
        refine Ev.bind hr ?_
        exact Ev.now _
      obtain ⟨r, h1, h2⟩ := index_l l hl m (n + 1) (by omega)
      by_cases h : right l[n] = true
      · refine ⟨r, ?_, ?_⟩
        · refine Ev.step (fun k => slices_IndexFunc__api_Value_api_Value_c36.l0.eq_2 ..) ?_
          refine ev_pos (by omega) ?_
          refine ev_pos (by omega) ?_
          refine ev_pos (by omega) ?_
          rw [rd_at l n hlt]
          refine Ev.bind hc ?_
          refine ev_neg (by simp [h]) ?_
          rw [wrap_in (by omega) (by omega)]
          exact h1
        · rw [h2, hd, List.all_cons, h, Bool.true_and]
      · refine ⟨n, ?_, ?_⟩
        · refine Ev.step (fun k => slices_IndexFunc__api_Value_api_Value_c36.l0.eq_2 ..) ?_
          refine ev_pos (by omega) ?_
          refine ev_pos (by omega) ?_
          refine ev_pos (by omega) ?_
          rw [rd_at l n hlt]
          refine Ev.bind hc ?_
          refine ev_pos (by simp [h]) ?_
          exact Ev.now _
        · rw [hd, List.all_cons]
          simp [h]
def check (n : Int) (l : List S45) : Int := if l.length > 6 then 3 else if n < 0 then 2 else if l.all right then 0 else 2
theorem check_f (n : Int) (l : List S45) (hl : l.length ≤ 1000) : Ev (fun k => rows_Check.f k n l) (check n l) := by
  unfold rows_Check.f check
  by_cases h : l.length > 6
  · refine ev_pos (by omega) ?_
    rw [if_pos h]
    exact Ev.now _
  · refine ev_neg (by omega) ?_
    rw [if_neg h]
    by_cases h1 : n < 0
    · refine ev_pos h1 ?_
      rw [if_pos h1]
      exact Ev.now _
    · refine ev_neg h1 ?_
      rw [if_neg h1]
      obtain ⟨r, h2, h3⟩ := index_l l hl l.length 0 (by omega)
      have h4 : Ev (fun k => slices_ContainsFunc__api_Value_api_Value_c36.f k l) (decide (r ≥ 0)) := by
        unfold slices_ContainsFunc__api_Value_api_Value_c36.f
        refine Ev.bind h2 ?_
        exact Ev.now _
      refine Ev.bind h4 ?_
      rw [h3, List.drop_zero]
      by_cases ha : l.all right = true
      · refine ev_neg (by simp [ha]) ?_
        rw [if_pos ha]
        exact Ev.now _
      · refine ev_pos (by simpa using ha) ?_
        rw [if_neg ha]
        exact Ev.now _
/-- too many values, or too long ones? -/
def large (l : List S45) : Bool := decide (l.length > 10) || l.any (fun v => decide (v.f2.size > 200))
theorem large_l (n : Int) (l : List S45) (hl : l.length ≤ maxLen) : ∀ (m i : Nat), i + m = 10 → i ≤ l.length → Ev (fun k => registrarlaw05_large.l0 k i n l) (decide (l.length > 10) || (l.drop i).any (fun v => decide (v.f2.size > 200)))
  | m, i, hi, hil => by
    refine Ev.step (fun k => registrarlaw05_large.l0.eq_2 ..) ?_
    by_cases h : i < l.length
    · refine ev_pos (by omega) ?_
      cases m with
      | zero =>
        refine ev_pos (by omega) ?_
        refine ev_to (Ev.now _) ?_
        have : l.length > 10 := by omega
        simp [this]
      | succ m =>
        refine ev_neg (by omega) ?_
        refine ev_pos (by omega) ?_
        rw [rd_at l i h, List.drop_eq_getElem_cons h, List.any_cons]
        by_cases h2 : l[i].f2.size > 200
        · refine ev_pos (by omega) ?_
          refine ev_to (Ev.now _) ?_
          simp [h2]
        · refine ev_neg (by omega) ?_
          rw [wrap_in (by omega) (by omega)]
          refine ev_to (large_l n l hl m (i + 1) (by omega) (by omega)) ?_
          simp [h2]
    · refine ev_neg (by omega) ?_
      refine ev_to (Ev.now _) ?_
      rw [List.drop_eq_nil_of_le (by omega)]
      have : ¬ l.length > 10 := by omega
      simp [this]
theorem large_f (n : Int) (l : List S45) (hl : l.length ≤ maxLen) : Ev (fun k => registrarlaw05_large.f k n l) (large l) := large_l n l hl 10 0 (by omega) (by omega)
theorem large_not {l : List S45} (h : ¬ large l = true) : l.length ≤ 10 ∧ ∀ v ∈ l, v.f2.size ≤ 200 := by
  simp only [large, Bool.or_eq_true, decide_eq_true_eq, List.any_eq_true, not_or, not_exists, not_and] at h
  exact ⟨by omega, fun v hv => by have := h.2 v hv; omega⟩
/-- a small number's bytes -/
def smallB (n : Nat) : List Int := if h : n < 128 then [(n : Int)] else ((n % 128 + 128 : Nat) : Int) :: smallB (n / 128)
termination_by n
decreasing_by omega
theorem smallB_one {n : Nat} (h : n < 128) : smallB n = [(n : Int)] := by rw [smallB, dif_pos h]
theorem smallB_more {n : Nat} (h : ¬ n < 128) : smallB n = ((n % 128 + 128 : Nat) : Int) :: smallB (n / 128) := by rw [smallB, dif_neg h]
theorem smallB_len : ∀ (k n : Nat), n < 128 ^ (k + 1) → (smallB n).length ≤ k + 1
  | 0, n, h => by rw [smallB_one (by simpa using h)]; simp
  | k + 1, n, h => by
    by_cases hx : n < 128
    · rw [smallB_one hx]; simp
    · rw [smallB_more hx, List.length_cons]
      have := smallB_len k (n / 128) (by rw [Nat.pow_succ] at h; exact Nat.div_lt_of_lt_mul (by rw [Nat.mul_comm]; exact h))
      omega
theorem smallB_len64 {n : Nat} (h : n < 18446744073709551616) : (smallB n).length ≤ 10 :=
  smallB_len 9 n (Nat.lt_of_lt_of_le h (by decide))
theorem smallB_inj : ∀ (n m : Nat) (a b : List Int), smallB n ++ a = smallB m ++ b → n = m ∧ a = b := by
  intro n
  induction n using Nat.strongRecOn with
  | _ n ih =>
  intro m a b h
  by_cases hn : n < 128
  · rw [smallB_one hn] at h
    by_cases hm : m < 128
    · rw [smallB_one hm] at h
      simp only [List.cons_append, List.nil_append, List.cons.injEq] at h
      exact ⟨by omega, h.2⟩
    · rw [smallB_more hm] at h
      simp only [List.cons_append, List.nil_append, List.cons.injEq] at h
      omega
  · rw [smallB_more hn] at h
    by_cases hm : m < 128
    · rw [smallB_one hm] at h
      simp only [List.cons_append, List.nil_append, List.cons.injEq] at h
      omega
    · rw [smallB_more hm] at h
      simp only [List.cons_append, List.cons.injEq] at h
      have := ih (n / 128) (by omega) (m / 128) a b h.2
      exact ⟨by omega, this.2⟩
theorem small_l : ∀ (n : Nat) (acc : List Int), acc.length + (smallB n).length < 140737488355328 → Ev (fun k => rows_small.l0 k acc n) (acc ++ smallB n) := by
  intro n
  induction n using Nat.strongRecOn with
  | _ n ih =>
  intro acc hl
  refine Ev.step (fun k => rows_small.l0.eq_2 ..) ?_
  by_cases h : n < 128
  · refine ev_neg (by omega) ?_
    rw [smallB_one h] at hl ⊢
    simp only [List.length_cons, List.length_nil] at hl
    refine ev_pos (by omega) ?_
    refine ev_to (Ev.now _) ?_
    rw [show (n : Int) % 256 = n by omega]
  · refine ev_pos (by omega) ?_
    rw [smallB_more h] at hl ⊢
    simp only [List.length_cons] at hl
    refine ev_pos (by omega) ?_
    rw [Lib.u8_or128_any _ (by omega) (by omega)]
    have e : (n : Int) % 256 % 128 + 128 = ((n % 128 + 128 : Nat) : Int) := by omega
    have e2 : (n : Int) / 128 = ((n / 128 : Nat) : Int) := by omega
    rw [e, e2]
    refine ev_to (ih (n / 128) (by omega) _ (by simp only [List.length_append, List.length_cons, List.length_nil]; omega)) ?_
    simp
theorem small_f (n : Nat) (acc : List Int) (h : acc.length + (smallB n).length < 140737488355328) : Ev (fun k => rows_small.f k acc n) (acc ++ smallB n) := small_l n acc h
theorem wrap_u64 {x : Int} (h0 : 0 ≤ x) (h1 : x < 18446744073709551616) : IntKind.u64.wrap x = x := by
  rw [IntKind.wrap_u64]
  omega
def in64 (x : Int) : Prop := -9223372036854775808 ≤ x ∧ x ≤ 9223372036854775807
theorem in64_wf {n : Int} (h : (Lit.int .i64 n).wf = true) : in64 n := by
  simp [Lit.wf, IntKind.min, IntKind.max, IntKind.bits, IntKind.signed] at h
  unfold in64
  omega
theorem xor_u64 (a b : Nat) (ha : a < 18446744073709551616) (hb : b < 18446744073709551616) : bits .xor .u64 (a : Int) (b : Int) = ((a ^^^ b : Nat) : Int) := bits_xor_u64_nat a b (by omega) (by omega)
theorem turned_f {a : Int} (ha : in64 a) : rows_turned.f a = some ((Lib.zigzag a : Nat) : Int) := by
  unfold in64 at ha
  unfold rows_turned.f
  congr 1
  by_cases h : 0 ≤ a
  · have e : a / 9223372036854775808 = 0 := by omega
    rw [e, wrap_u64 h (by omega), wrap_u64 (by omega) (by omega), wrap_u64 (by omega) (by omega)]
    obtain ⟨n, rfl⟩ := Int.eq_ofNat_of_zero_le h
    have e2 : (n : Int) * 2 = ((n * 2 : Nat) : Int) := by omega
    have e3 : (0 : Int) = ((0 : Nat) : Int) := rfl
    rw [e2, e3, xor_u64 _ _ (by omega) (by omega), Nat.xor_zero]
    unfold Lib.zigzag
    rw [if_pos (by omega)]
    omega
  · have e : a / 9223372036854775808 = -1 := by omega
    rw [e]
    have hz := Lib.zigzag_neg ha.1 (by omega : a < 0)
    rw [← hz]
    have e4 : IntKind.u64.wrap (-1) = IntKind.u64.max := by decide
    have e1 : IntKind.u64.wrap (IntKind.u64.wrap a * 2) = (((2 * a + 18446744073709551616).toNat : Nat) : Int) := by
      rw [IntKind.wrap_u64, IntKind.wrap_u64]
      omega
    have e2 : IntKind.u64.max = ((2 ^ 64 - 1 : Nat) : Int) := by decide
    rw [e4, e1, e2, xor_u64 _ _ (by omega) (by decide), xor_u64 _ _ (by decide) (by omega), Nat.xor_comm]
/-- the kinds, two bits each -/
def kinds : List S45 → Nat
  | [] => 0
  | v :: t => v.f0.toNat + 4 * kinds t
theorem kinds_append : ∀ (l : List S45) (v : S45), kinds (l ++ [v]) = kinds l + v.f0.toNat * 4 ^ l.length
  | [], v => by simp [kinds]
  | x :: l, v => by
    have := kinds_append l v
    simp only [List.cons_append, kinds, this, List.length_cons, Nat.pow_succ]
    have e : v.f0.toNat * (4 ^ l.length * 4) = 4 * (v.f0.toNat * 4 ^ l.length) := by rw [← Nat.mul_assoc, Nat.mul_comm]
    omega
theorem kinds_lt : ∀ (l : List S45), (∀ v ∈ l, v.f0.toNat ≤ 3) → kinds l < 4 ^ l.length
  | [], _ => by simp [kinds]
  | x :: l, h => by
    have h1 := kinds_lt l (fun v hv => h v (List.mem_cons_of_mem _ hv))
    have h2 := h x List.mem_cons_self
    simp only [kinds, List.length_cons, Nat.pow_succ]
    omega
theorem right_kind {v : S45} (h : right v = true) : 0 ≤ v.f0 ∧ v.f0 ≤ 3 := by
  unfold right at h
  split at h
  · omega
  · split at h
    · omega
    · split at h
      · omega
      · split at h
        · omega
        · exact absurd h (by simp)
theorem right_size {v : S45} (h : right v = true) (h3 : v.f0 = 3) : v.f2.size ≤ 32 := by
  unfold right at h
  rw [if_neg (by omega), if_neg (by omega), if_neg (by omega), if_pos h3] at h
  simp only [Bool.and_eq_true, decide_eq_true_eq] at h
  exact h.2.1
/-- a value's bytes -/
def valB (v : S45) : List Int :=
  if v.f0 = 1 then smallB (Lib.zigzag v.f1) else if v.f0 = 2 then [v.f1 % 256] else if v.f0 = 3 then (v.f2.size : Int) :: B v.f2 else []
def bodyB : List S45 → List Int
  | [] => []
  | v :: t => valB v ++ bodyB t
/-- a row's bytes -/
def put (n : Int) (l : List S45) : List Int × Int :=
  if check n l = 0 then (smallB n.toNat ++ ([(l.length : Int), ((kinds l % 256 : Nat) : Int), ((kinds l / 256 : Nat) : Int)] ++ bodyB l), 0) else ([], check n l)
theorem valB_len {v : S45} (hr : right v = true) (hi : in64 v.f1) : (valB v).length ≤ 40 := by
  unfold valB
  split
  · have := smallB_len64 (Lib.zigzag_lt hi.1 hi.2)
    omega
  · split
    · simp
    · split
      · rename_i h3
        have := right_size hr h3
        have := B_size v.f2
        simp
        omega
      · simp
theorem shl_f (k : Nat) (i : Nat) (hk : k ≤ 3) (hi : i ≤ 5) (y : Nat) (hy : y < 4 ^ i) : Go.bits .or .i64 (y : Int) (shl .i64 (k : Int) (IntKind.u64.wrap (wrap64 (2 * (i : Int))))) = ((y + k * 4 ^ i : Nat) : Int) := by
  have hw : IntKind.u64.wrap (wrap64 (2 * (i : Int))) = ((2 * i : Nat) : Int) := by
    rw [wrap_in (by omega) (by omega), wrap_u64 (by omega) (by omega)]
    omega
  rw [hw]
  unfold shl
  have hm : min (((2 * i : Nat) : Int)).toNat IntKind.i64.bits = 2 * i := by
    have : IntKind.i64.bits = 64 := by decide
    rw [this]
    omega
  rw [hm]
  have hp : (4 : Nat) ^ i ≤ 4 ^ 5 := Nat.pow_le_pow_right (by omega) hi
  have e4 : (2 : Nat) ^ (2 * i) = 4 ^ i := by rw [Nat.pow_mul]
  have hmul : k * 4 ^ i ≤ 3 * 4 ^ 5 := Nat.mul_le_mul hk hp
  have e5 : (k : Int) * 2 ^ (2 * i) = ((k * 4 ^ i : Nat) : Int) := by
    rw [← e4]
    simp
  rw [e5]
  have hw2 : IntKind.i64.wrap ((k * 4 ^ i : Nat) : Int) = ((k * 4 ^ i : Nat) : Int) := by
    rw [IntKind.wrap_i64]
    omega
  rw [hw2]
  have hj := bits_join_low .i64 62 (by decide) (fun n h0 h1 => by rw [IntKind.wrap_i64]; omega) (2 * i) (y : Int) ((k * 4 ^ i : Nat) : Int) (by omega) (by
    have : ((2 : Int) ^ (2 * i)) = ((4 ^ i : Nat) : Int) := by rw [← e4]; simp
    rw [this]
    omega) (by omega) (by omega) (by
    have : ((2 : Int) ^ (2 * i)) = ((4 ^ i : Nat) : Int) := by rw [← e4]; simp
    rw [this]
    have h6 : k * 4 ^ i % 4 ^ i = 0 := Nat.mul_mod_left ..
    omega) (by omega)
  rw [hj]
  omega
theorem all_at {l : List S45} (h : l.all right = true) (i : Nat) (hi : i < l.length) : right l[i] = true := List.all_eq_true.1 h _ (List.getElem_mem hi)
theorem index_w {i : Nat} (h : i ≤ 1000) : wrap64 ((i : Int) + 1) = ((i + 1 : Nat) : Int) ∧ 0 ≤ IntKind.u64.wrap (wrap64 (2 * (i : Int))) := by
  refine ⟨?_, ?_⟩
  · rw [wrap_in (by omega) (by omega)]
    omega
  · rw [wrap_in (by omega) (by omega), wrap_u64 (by omega) (by omega)]
    omega
/-- the values' bytes -/
theorem body_l (l : List S45) (hl : l.length ≤ 6) (hr : l.all right = true) (h64 : ∀ v ∈ l, in64 v.f1) : ∀ (m i : Nat) (acc : List Int), i + m = l.length → acc.length ≤ 13 + 40 * i → Ev (fun k => rows_Put.l1 k acc l l.length i) (acc ++ bodyB (l.drop i), 0)
  | m, i, acc, hi, ha => by
    refine Ev.step (fun k => rows_Put.l1.eq_2 ..) ?_
    cases m with
    | zero =>
      refine ev_neg (by omega) ?_
      rw [List.drop_eq_nil_of_le (by omega)]
      refine ev_to (Ev.now _) ?_
      simp [bodyB]
    | succ m =>
      have hlt : i < l.length := by omega
      have hrv := all_at hr i hlt
      have h64v := h64 l[i] (List.getElem_mem hlt)
      have hlen := valB_len hrv h64v
      have hk := right_kind hrv
      have hs := fun h3 => right_size hrv h3
      rw [rd_at l i hlt, List.drop_eq_getElem_cons hlt]
      simp only [bodyB]
      obtain ⟨v, hv⟩ : ∃ v, l[i] = v := ⟨_, rfl⟩
      rw [hv] at hrv h64v hlen hk hs ⊢
      have hw : wrap64 ((i : Int) + 1) = ((i + 1 : Nat) : Int) := by rw [wrap_in (by omega) (by omega)]; omega
      simp only [hw]
      refine ev_pos (by omega) ?_
      refine ev_pos (by omega) ?_
      refine ev_pos (by omega) ?_
      by_cases h1 : v.f0 = 1
      · refine ev_pos h1 ?_
        have hvB : valB v = smallB (Lib.zigzag v.f1) := by unfold valB; rw [if_pos h1]
        rw [hvB] at hlen ⊢
        refine ev_one (turned_f h64v) ?_
        refine Ev.bind (small_f _ acc (by omega)) ?_
        refine ev_to (body_l l hl hr h64 m (i + 1) _ (by omega) (by rw [List.length_append]; omega)) ?_
        rw [List.append_assoc]
      · refine ev_neg h1 ?_
        by_cases h2 : v.f0 = 2
        · refine ev_pos h2 ?_
          have hvB : valB v = [v.f1 % 256] := by unfold valB; rw [if_neg h1, if_pos h2]
          rw [hvB]
          refine ev_pos (by omega) ?_
          refine ev_to (body_l l hl hr h64 m (i + 1) _ (by omega) (by rw [List.length_append]; simp; omega)) ?_
          rw [List.append_assoc]
        · refine ev_neg h2 ?_
          by_cases h3 : v.f0 = 3
          · have hsz := hs h3
            have hb := B_size v.f2
            refine ev_pos h3 ?_
            have hvB : valB v = (v.f2.size : Int) :: B v.f2 := by unfold valB; rw [if_neg h1, if_neg h2, if_pos h3]
            rw [hvB]
            refine ev_pos (by omega) ?_
            refine ev_one rfl ?_
            refine ev_pos (by simp; omega) ?_
            rw [show (v.f2.size : Int) % 256 = v.f2.size by omega]
            refine ev_to (body_l l hl hr h64 m (i + 1) _ (by omega) (by simp only [List.length_append, List.length_cons, List.length_nil]; show _ + (B v.f2).length ≤ _; omega)) ?_
            simp
          · refine ev_neg h3 ?_
            have hvB : valB v = [] := by unfold valB; rw [if_neg h1, if_neg h2, if_neg h3]
            rw [hvB]
            refine ev_to (body_l l hl hr h64 m (i + 1) _ (by omega) (by omega)) ?_
            simp
theorem kinds_l (n : Int) (l : List S45) (hl : l.length ≤ 6) (hr : l.all right = true) (h64 : ∀ v ∈ l, in64 v.f1) (acc : List Int) (ha : acc.length ≤ 10) : ∀ (m i : Nat), i + m = l.length → Ev (fun k => rows_Put.l0 k acc (kinds (l.take i) : Nat) l l.length i n l) (acc ++ ([(l.length : Int), ((kinds l % 256 : Nat) : Int), ((kinds l / 256 : Nat) : Int)] ++ bodyB l), 0)
  | m, i, hi => by
    have h3 : ∀ (l : List S45), l.all right = true → ∀ v ∈ l, v.f0.toNat ≤ 3 := by
      intro l hr v hv
      have := right_kind (List.all_eq_true.1 hr v hv)
      omega
    refine Ev.step (fun k => rows_Put.l0.eq_2 ..) ?_
    cases m with
    | zero =>
      have : i = l.length := by omega
      subst this
      rw [List.take_length]
      have hk := kinds_lt l (h3 l hr)
      have hp : (4 : Nat) ^ l.length ≤ 4 ^ 6 := Nat.pow_le_pow_right (by omega) hl
      refine ev_neg (by omega) ?_
      refine ev_one rfl ?_
      refine ev_pos (by simp only [List.length_cons, List.length_nil]; omega) ?_
      have e : (l.length : Int) % 256 = l.length := by omega
      have e1 : ((kinds l : Nat) : Int) % 256 = ((kinds l % 256 : Nat) : Int) := by omega
      have e2 : ((kinds l : Nat) : Int) / 256 % 256 = ((kinds l / 256 : Nat) : Int) := by omega
      rw [e, e1, e2]
      have := body_l l hl hr h64 l.length 0 (acc ++ [(l.length : Int), ((kinds l % 256 : Nat) : Int), ((kinds l / 256 : Nat) : Int)]) (by omega) (by simp only [List.length_append, List.length_cons, List.length_nil]; omega)
      refine ev_to this ?_
      simp
    | succ m =>
      have hlt : i < l.length := by omega
      have hrv := right_kind (all_at hr i hlt)
      have hi5 : i ≤ 5 := by omega
      have q1 : (i : Int) < (l.length : Int) := by omega
      have q2 : (0 : Int) ≤ (i : Int) := by omega
      have q3 : i + 1 + m = l.length := by omega
      have q4 := index_w (i := i) (by omega)
      have htk : l.take (i + 1) = l.take i ++ [l[i]] := by simp
      have hkt := kinds_lt (l.take i) (fun v hv => h3 l hr v (List.mem_of_mem_take hv))
      have hka := kinds_append (l.take i) l[i]
      have hln : (l.take i).length = i := by rw [List.length_take]; omega
      rw [hln] at hkt hka
      rw [← htk] at hka
      rw [rd_at l i hlt]
      obtain ⟨v, hv⟩ : ∃ v, l[i] = v := ⟨_, rfl⟩
      rw [hv] at hrv hka ⊢
      obtain ⟨K, hK⟩ := Int.eq_ofNat_of_zero_le hrv.1
      rw [hK] at hka hrv
      have hs := shl_f K i (by omega) hi5 (kinds (l.take i)) hkt
      rw [Int.toNat_natCast] at hka
      rw [← hka] at hs
      rw [hK]
      simp only [q4.1]
      refine ev_pos q1 ?_
      refine ev_pos q2 ?_
      refine ev_pos q1 ?_
      refine ev_pos q4.2 ?_
      rw [hs]
      exact kinds_l n l hl hr h64 acc ha m (i + 1) q3
theorem check_ok {n : Int} {l : List S45} (h : check n l = 0) : l.length ≤ 6 ∧ 0 ≤ n ∧ l.all right = true := by
  unfold check at h
  split at h
  · omega
  · split at h
    · omega
    · split at h
      · rename_i h1 h2 h3
        exact ⟨by omega, by omega, h3⟩
      · omega
theorem put_f (n : Int) (l : List S45) (hn : in64 n) (hl : l.length ≤ 1000) (h64 : ∀ v ∈ l, in64 v.f1) : Ev (fun k => rows_Put.f k n l) (put n l) := by
  unfold rows_Put.f put
  refine Ev.bind (check_f n l hl) ?_
  by_cases h : check n l = 0
  · refine ev_pos h ?_
    rw [if_pos h]
    obtain ⟨h1, h2, h3⟩ := check_ok h
    obtain ⟨N, rfl⟩ := Int.eq_ofNat_of_zero_le h2
    unfold in64 at hn
    rw [wrap_u64 (by omega) (by omega)]
    have hlen := smallB_len64 (n := N) (by omega)
    refine Ev.bind (small_f N [] (by simp only [List.length_nil]; omega)) ?_
    have := kinds_l N l h1 h3 h64 ([] ++ smallB N) (by simpa using hlen) l.length 0 (by omega)
    rw [List.nil_append] at this
    exact this
  · refine ev_neg h ?_
    rw [if_neg h]
    exact Ev.now _
theorem put_len (n : Int) (l : List S45) (hn : in64 n) (h64 : ∀ v ∈ l, in64 v.f1) : (put n l).1.length ≤ 1000 := by
  unfold put
  by_cases h : check n l = 0
  · rw [if_pos h]
    obtain ⟨h1, h2, h3⟩ := check_ok h
    unfold in64 at hn
    have hlen := smallB_len64 (n := n.toNat) (by omega)
    have hb : ∀ (l : List S45), l.all right = true → (∀ v ∈ l, in64 v.f1) → (bodyB l).length ≤ 40 * l.length := by
      intro l
      induction l with
      | nil => intro _ _; simp [bodyB]
      | cons v t ih =>
        intro hr h64
        rw [List.all_cons, Bool.and_eq_true] at hr
        have h1 := valB_len hr.1 (h64 v List.mem_cons_self)
        have h2 := ih hr.2 (fun x hx => h64 x (List.mem_cons_of_mem _ hx))
        simp only [bodyB, List.length_append, List.length_cons]
        omega
    have := hb l h3 h64
    simp only [List.length_append, List.length_cons, List.length_nil]
    omega
  · rw [if_neg h]
    simp
theorem size_f (n : Int) (l : List S45) (hn : in64 n) (hl : l.length ≤ 1000) (h64 : ∀ v ∈ l, in64 v.f1) : Ev (fun k => rows_Size.f k n l) ((put n l).1.length : Int) := by
  unfold rows_Size.f
  refine Ev.bind (put_f n l hn hl h64) ?_
  exact Ev.now _
theorem same_l (a b : List Int) (h : a.length = b.length) (ha : a.length ≤ 100000) : ∀ (m i : Nat), i + m = a.length → Ev (fun k => registrarref04_Same.l0 k a b i) (decide (a.drop i = b.drop i))
  | m, i, hi => by
    refine Ev.step (fun k => registrarref04_Same.l0.eq_2 ..) ?_
    cases m with
    | zero =>
      refine ev_neg (by omega) ?_
      rw [List.drop_eq_nil_of_le (by omega), List.drop_eq_nil_of_le (by omega)]
      exact Ev.now _
    | succ m =>
      refine ev_pos (by omega) ?_
      refine ev_pos (by omega) ?_
      refine ev_pos (by omega) ?_
      have e1 : rd a (i : Int) = a[i]'(by omega) := by simp [rd, List.getD_eq_getElem?_getD, show i < a.length by omega]
      have e2 : rd b (i : Int) = b[i]'(by omega) := by simp [rd, List.getD_eq_getElem?_getD, show i < b.length by omega]
      rw [e1, e2, List.drop_eq_getElem_cons (by omega : i < a.length), List.drop_eq_getElem_cons (by omega : i < b.length)]
      by_cases hh : a[i]'(by omega) = b[i]'(by omega)
      · refine ev_pos hh ?_
        rw [wrap_in (by omega) (by omega)]
        refine ev_to (same_l a b h ha m (i + 1) (by omega)) ?_
        simp only [List.cons.injEq, hh, true_and]
      · refine ev_neg hh ?_
        refine ev_to (Ev.now _) ?_
        simp only [List.cons.injEq, hh, false_and, decide_false]
theorem same_f (a b : List Int) (ha : a.length ≤ 100000) : Ev (fun k => registrarref04_Same.f k a b) (decide (a = b)) := by
  unfold registrarref04_Same.f
  by_cases h : a.length = b.length
  · refine ev_pos (by omega) ?_
    exact same_l a b h ha a.length 0 (by omega)
  · refine ev_neg (by omega) ?_
    refine ev_to (Ev.now _) ?_
    symm
    rw [decide_eq_false_iff_not]
    intro e
    exact h (congrArg List.length e)
theorem works_f : Ev (fun k => registrarlaw05_works.f k) true := by
  unfold registrarlaw05_works.f
  have h1 := put_f 1 [(⟨1, (-1), (⟨#[]⟩ : ByteArray)⟩ : S45), (⟨0, 0, (⟨#[]⟩ : ByteArray)⟩ : S45)] ⟨by omega, by omega⟩ (by decide) (by
    intro v hv
    simp only [List.mem_cons, List.not_mem_nil, or_false] at hv
    rcases hv with rfl | rfl <;> exact ⟨by decide, by decide⟩)
  have e : put 1 [(⟨1, (-1), (⟨#[]⟩ : ByteArray)⟩ : S45), (⟨0, 0, (⟨#[]⟩ : ByteArray)⟩ : S45)] = ([1, 2, 1, 0, 1], 0) := by
    have hn : (⟨#[]⟩ : ByteArray).toList = ([] : List UInt8) := (toList_nil_iff _).2 rfl
    have hc : check 1 [(⟨1, (-1), (⟨#[]⟩ : ByteArray)⟩ : S45), (⟨0, 0, (⟨#[]⟩ : ByteArray)⟩ : S45)] = 0 := by
      simp [check, right, hn]
    unfold put
    rw [if_pos hc]
    have e1 : smallB 1 = [1] := smallB_one (by decide)
    have e2 : smallB (Lib.zigzag (-1)) = [1] := smallB_one (by decide)
    simp [e1, e2, bodyB, valB, kinds]
  rw [e] at h1
  refine Ev.bind h1 ?_
  refine ev_pos rfl ?_
  refine Ev.bind (same_f _ _ (by decide)) ?_
  refine ev_pos (by decide) ?_
  refine Ev.bind (size_f 0 [] ⟨by omega, by omega⟩ (by decide) (by intro v hv; cases hv)) ?_
  have e3 : (put 0 []).1.length = 4 := by
    have hc : check 0 [] = 0 := by simp [check]
    unfold put
    rw [if_pos hc]
    have e1 : smallB 0 = [0] := smallB_one (by decide)
    simp [e1, bodyB]
  rw [e3]
  exact Ev.now _
def sameV (a b : S45) : Bool := (a.f0 == b.f0) && ((a.f1 == b.f1) && (a.f2.toList == b.f2.toList))
theorem sameV_iff {a b : S45} : sameV a b = true ↔ a = b := by
  unfold sameV
  simp only [Bool.and_eq_true, beq_iff_eq, toList_eq_iff]
  constructor
  · rintro ⟨h1, h2, h3⟩
    cases a
    cases b
    simp_all
  · rintro rfl
    exact ⟨rfl, rfl, rfl⟩
def sameL : List S45 → List S45 → Bool
  | [], [] => true
  | x :: a, y :: b => sameV x y && sameL a b
  | _, _ => false
theorem sameL_iff : ∀ {a b : List S45}, sameL a b = true ↔ a = b
  | [], [] => by simp [sameL]
  | [], y :: b => by simp [sameL]
  | x :: a, [] => by simp [sameL]
  | x :: a, y :: b => by
    have := sameL_iff (a := a) (b := b)
    simp only [sameL, Bool.and_eq_true, sameV_iff, this, List.cons.injEq]
theorem not_sameV (x y : S45) : ((!(x.f0 == y.f0)) || ((!(x.f1 == y.f1)) || (!(x.f2.toList == y.f2.toList)))) = !(sameV x y) := by
  unfold sameV
  simp only [Bool.not_and]
theorem sameL_length {a b : List S45} (h : ¬ a.length = b.length) : sameL a b = false := by
  rw [Bool.eq_false_iff]
  intro h1
  exact h (congrArg List.length (sameL_iff.1 h1))
theorem zigzag_inj {a b : Int} (h : Lib.zigzag a = Lib.zigzag b) : a = b := by
  unfold Lib.zigzag at h
  split at h <;> split at h <;> omega
end Go.Proofs.Ytlbjipdkihoojaa.RowsW
