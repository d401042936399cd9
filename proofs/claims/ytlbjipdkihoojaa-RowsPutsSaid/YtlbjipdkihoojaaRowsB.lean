/- A row's bytes, in plain words, and that both ways of putting come to them. -/
import Derived.Test.YtlbjipdkihoojaaRowsW
import Derived.Lib.Zigzag
namespace Go.Proofs.Ytlbjipdkihoojaa.RowsW
set_option linter.unusedVariables false
set_option linter.unusedSimpArgs false
open Go Go.RowKit Go.Proofs.Ytlbjipdkihoojaa.Q Go.Proofs.YtlbjipdkihoojaaW.PrintWords Go.Proofs.Ytlbjipdkihoojaa.Aux Go.Proofs.Ytlbjipdkihoojaa.By

/-- a small number's bytes -/
def smallB (n : Nat) : List Int := if h : n < 128 then [(n : Int)] else ((n % 128 + 128 : Nat) : Int) :: smallB (n / 128)
termination_by n
decreasing_by omega
theorem smallB_one {n : Nat} (h : n < 128) : smallB n = [(n : Int)] := by rw [smallB, dif_pos h]
theorem smallB_more {n : Nat} (h : ¬ n < 128) : smallB n = ((n % 128 + 128 : Nat) : Int) :: smallB (n / 128) := by rw [smallB, dif_neg h]
theorem smallB_len : ∀ (k n : Nat), n < 128 ^ (k + 1) → (smallB n).length ≤ k + 1
  | 0, n, h => by rw [smallB_one (by simpa using h)]; simp
  | k + 1, n, h => by
    by_cases hx : n < 128
    · rw [smallB_one hx]; simp
    · rw [smallB_more hx, List.length_cons]
      have := smallB_len k (n / 128) (by rw [Nat.pow_succ] at h; exact Nat.div_lt_of_lt_mul (by rw [Nat.mul_comm]; exact h))
      omega
theorem smallB_len64 {n : Nat} (h : n < 18446744073709551616) : (smallB n).length ≤ 10 :=
  smallB_len 9 n (Nat.lt_of_lt_of_le h (by decide))
theorem smallB_inj : ∀ (n m : Nat) (a b : List Int), smallB n ++ a = smallB m ++ b → n = m ∧ a = b := by
  intro n
  induction n using Nat.strongRecOn with
  | _ n ih =>
  intro m a b h
  by_cases hn : n < 128
  · rw [smallB_one hn] at h
    by_cases hm : m < 128
    · rw [smallB_one hm] at h
      simp only [List.cons_append, List.nil_append, List.cons.injEq] at h
      exact ⟨by omega, h.2⟩
    · rw [smallB_more hm] at h
      simp only [List.cons_append, List.nil_append, List.cons.injEq] at h
      omega
  · rw [smallB_more hn] at h
    by_cases hm : m < 128
    · rw [smallB_one hm] at h
      simp only [List.cons_append, List.nil_append, List.cons.injEq] at h
      omega
    · rw [smallB_more hm] at h
      simp only [List.cons_append, List.cons.injEq] at h
      have := ih (n / 128) (by omega) (m / 128) a b h.2
      exact ⟨by omega, this.2⟩
theorem small_l : ∀ (n : Nat) (acc : List Int), acc.length + (smallB n).length < 140737488355328 → Ev (fun k => rows_small.l0 k acc n) (acc ++ smallB n) := by
  intro n
  induction n using Nat.strongRecOn with
  | _ n ih =>
  intro acc hl
  refine Ev.step (fun k => rows_small.l0.eq_2 ..) ?_
  by_cases h : n < 128
  · refine ev_neg (by omega) ?_
    rw [smallB_one h] at hl ⊢
    simp only [List.length_cons, List.length_nil] at hl
    refine ev_pos (by omega) ?_
    refine ev_to (Ev.now _) ?_
    rw [show (n : Int) % 256 = n by omega]
  · refine ev_pos (by omega) ?_
    rw [smallB_more h] at hl ⊢
    simp only [List.length_cons] at hl
    refine ev_pos (by omega) ?_
    rw [Lib.u8_or128_any _ (by omega) (by omega)]
    have e : (n : Int) % 256 % 128 + 128 = ((n % 128 + 128 : Nat) : Int) := by omega
    have e2 : (n : Int) / 128 = ((n / 128 : Nat) : Int) := by omega
    rw [e, e2]
    refine ev_to (ih (n / 128) (by omega) _ (by simp only [List.length_append, List.length_cons, List.length_nil]; omega)) ?_
    simp
theorem small_f (n : Nat) (acc : List Int) (h : acc.length + (smallB n).length < 140737488355328) : Ev (fun k => rows_small.f k acc n) (acc ++ smallB n) := small_l n acc h
theorem wrap_u64 {x : Int} (h0 : 0 ≤ x) (h1 : x < 18446744073709551616) : IntKind.u64.wrap x = x := by
  rw [IntKind.wrap_u64]
  omega
theorem rsmall_f : ∀ (n : Nat), n < 18446744073709551616 → Ev (fun k => registrarref05_small.f k n) (smallB n) := by
  intro n
  induction n using Nat.strongRecOn with
  | _ n ih =>
  intro hn
  refine Ev.step (fun k => registrarref05_small.f.eq_2 ..) ?_
  by_cases h : n < 128
  · refine ev_pos (by omega) ?_
    rw [smallB_one h]
    refine ev_to (Ev.now _) ?_
    rw [show (n : Int) % 256 = n by omega]
  · refine ev_neg (by omega) ?_
    refine ev_one rfl ?_
    have e : Int.tdiv (n : Int) 128 = ((n / 128 : Nat) : Int) := by
      rw [Int.tdiv_eq_ediv_of_nonneg (by omega)]
      omega
    have e1 : Int.tmod (n : Int) 128 = ((n % 128 : Nat) : Int) := by
      rw [Int.tmod_eq_emod_of_nonneg (by omega)]
      omega
    rw [e, e1, wrap_u64 (by omega) (by omega)]
    refine Ev.bind (ih (n / 128) (by omega) (by omega)) ?_
    have := smallB_len64 (n := n / 128) (by omega)
    refine ev_pos (by simp only [List.length_cons, List.length_nil]; omega) ?_
    rw [smallB_more h]
    refine ev_to (Ev.now _) ?_
    rw [show ((n % 128 : Nat) : Int) % 256 = ((n % 128 : Nat) : Int) by omega, show (((n % 128 : Nat) : Int) + 128) % 256 = ((n % 128 + 128 : Nat) : Int) by omega]
    rfl
def in64 (x : Int) : Prop := -9223372036854775808 ≤ x ∧ x ≤ 9223372036854775807
theorem in64_wf {n : Int} (h : (Lit.int .i64 n).wf = true) : in64 n := by
  simp [Lit.wf, IntKind.min, IntKind.max, IntKind.bits, IntKind.signed] at h
  unfold in64
  omega
theorem xor_u64 (a b : Nat) (ha : a < 18446744073709551616) (hb : b < 18446744073709551616) : bits .xor .u64 (a : Int) (b : Int) = ((a ^^^ b : Nat) : Int) := bits_xor_u64_nat a b (by omega) (by omega)
theorem turned_f {a : Int} (ha : in64 a) : rows_turned.f a = some ((Lib.zigzag a : Nat) : Int) := by
  unfold in64 at ha
  unfold rows_turned.f
  congr 1
  by_cases h : 0 ≤ a
  · have e : a / 9223372036854775808 = 0 := by omega
    rw [e, wrap_u64 h (by omega), wrap_u64 (by omega) (by omega), wrap_u64 (by omega) (by omega)]
    obtain ⟨n, rfl⟩ := Int.eq_ofNat_of_zero_le h
    have e2 : (n : Int) * 2 = ((n * 2 : Nat) : Int) := by omega
    have e3 : (0 : Int) = ((0 : Nat) : Int) := rfl
    rw [e2, e3, xor_u64 _ _ (by omega) (by omega), Nat.xor_zero]
    unfold Lib.zigzag
    rw [if_pos (by omega)]
    omega
  · have e : a / 9223372036854775808 = -1 := by omega
    rw [e]
    have hz := Lib.zigzag_neg ha.1 (by omega : a < 0)
    rw [← hz]
    have e4 : IntKind.u64.wrap (-1) = IntKind.u64.max := by decide
    have e1 : IntKind.u64.wrap (IntKind.u64.wrap a * 2) = (((2 * a + 18446744073709551616).toNat : Nat) : Int) := by
      rw [IntKind.wrap_u64, IntKind.wrap_u64]
      omega
    have e2 : IntKind.u64.max = ((2 ^ 64 - 1 : Nat) : Int) := by decide
    rw [e4, e1, e2, xor_u64 _ _ (by omega) (by decide), xor_u64 _ _ (by decide) (by omega), Nat.xor_comm]
theorem rturned_f {a : Int} (ha : in64 a) : registrarref05_turned.f a = some ((Lib.zigzag a : Nat) : Int) := by
  unfold in64 at ha
  unfold registrarref05_turned.f Lib.zigzag
  by_cases h : a < 0
  · rw [if_pos h, if_neg (by omega)]
    congr 1
    rw [wrap_in (x := a + 1) (by omega) (by omega), wrap_in (x := -(a + 1)) (by omega) (by omega), wrap_u64 (x := -(a + 1)) (by omega) (by omega), wrap_u64 (x := 2 * _) (by omega) (by omega), wrap_u64 (by omega) (by omega)]
    omega
  · rw [if_neg h, if_pos (by omega)]
    congr 1
    rw [wrap_u64 (x := a) (by omega) (by omega), wrap_u64 (by omega) (by omega)]
    omega
/-- the kinds, two bits each -/
def kinds : List S45 → Nat
  | [] => 0
  | v :: t => v.f0.toNat + 4 * kinds t
theorem kinds_append : ∀ (l : List S45) (v : S45), kinds (l ++ [v]) = kinds l + v.f0.toNat * 4 ^ l.length
  | [], v => by simp [kinds]
  | x :: l, v => by
    have := kinds_append l v
    simp only [List.cons_append, kinds, this, List.length_cons, Nat.pow_succ]
    have e : v.f0.toNat * (4 ^ l.length * 4) = 4 * (v.f0.toNat * 4 ^ l.length) := by rw [← Nat.mul_assoc, Nat.mul_comm]
    omega
theorem kinds_lt : ∀ (l : List S45), (∀ v ∈ l, v.f0.toNat ≤ 3) → kinds l < 4 ^ l.length
  | [], _ => by simp [kinds]
  | x :: l, h => by
    have h1 := kinds_lt l (fun v hv => h v (List.mem_cons_of_mem _ hv))
    have h2 := h x List.mem_cons_self
    simp only [kinds, List.length_cons, Nat.pow_succ]
    omega
theorem right_kind {v : S45} (h : right v = true) : 0 ≤ v.f0 ∧ v.f0 ≤ 3 := by
  unfold right at h
  split at h
  · omega
  · split at h
    · omega
    · split at h
      · omega
      · split at h
        · omega
        · exact absurd h (by simp)
theorem right_size {v : S45} (h : right v = true) (h3 : v.f0 = 3) : v.f2.size ≤ 32 := by
  unfold right at h
  rw [if_neg (by omega), if_neg (by omega), if_neg (by omega), if_pos h3] at h
  simp only [Bool.and_eq_true, decide_eq_true_eq] at h
  exact h.2.1
/-- a value's bytes -/
def valB (v : S45) : List Int :=
  if v.f0 = 1 then smallB (Lib.zigzag v.f1) else if v.f0 = 2 then [v.f1 % 256] else if v.f0 = 3 then (v.f2.size : Int) :: B v.f2 else []
def bodyB : List S45 → List Int
  | [] => []
  | v :: t => valB v ++ bodyB t
/-- a row's bytes -/
def put (n : Int) (l : List S45) : List Int × Int :=
  if check n l = 0 then (smallB n.toNat ++ ([(l.length : Int), ((kinds l % 256 : Nat) : Int), ((kinds l / 256 : Nat) : Int)] ++ bodyB l), 0) else ([], check n l)
theorem valB_len {v : S45} (hr : right v = true) (hi : in64 v.f1) : (valB v).length ≤ 40 := by
  unfold valB
  split
  · have := smallB_len64 (Lib.zigzag_lt hi.1 hi.2)
    omega
  · split
    · simp
    · split
      · rename_i h3
        have := right_size hr h3
        have := B_size v.f2
        simp
        omega
      · simp
theorem shl_f (k : Nat) (i : Nat) (hk : k ≤ 3) (hi : i ≤ 5) (y : Nat) (hy : y < 4 ^ i) : Go.bits .or .i64 (y : Int) (shl .i64 (k : Int) (IntKind.u64.wrap (wrap64 (2 * (i : Int))))) = ((y + k * 4 ^ i : Nat) : Int) := by
  have hw : IntKind.u64.wrap (wrap64 (2 * (i : Int))) = ((2 * i : Nat) : Int) := by
    rw [wrap_in (by omega) (by omega), wrap_u64 (by omega) (by omega)]
    omega
  rw [hw]
  unfold shl
  have hm : min (((2 * i : Nat) : Int)).toNat IntKind.i64.bits = 2 * i := by
    have : IntKind.i64.bits = 64 := by decide
    rw [this]
    omega
  rw [hm]
  have hp : (4 : Nat) ^ i ≤ 4 ^ 5 := Nat.pow_le_pow_right (by omega) hi
  have e4 : (2 : Nat) ^ (2 * i) = 4 ^ i := by rw [Nat.pow_mul]
  have hmul : k * 4 ^ i ≤ 3 * 4 ^ 5 := Nat.mul_le_mul hk hp
  have e5 : (k : Int) * 2 ^ (2 * i) = ((k * 4 ^ i : Nat) : Int) := by
    rw [← e4]
    simp
  rw [e5]
  have hw2 : IntKind.i64.wrap ((k * 4 ^ i : Nat) : Int) = ((k * 4 ^ i : Nat) : Int) := by
    rw [IntKind.wrap_i64]
    omega
  rw [hw2]
  have hj := bits_join_low .i64 62 (by decide) (fun n h0 h1 => by rw [IntKind.wrap_i64]; omega) (2 * i) (y : Int) ((k * 4 ^ i : Nat) : Int) (by omega) (by
    have : ((2 : Int) ^ (2 * i)) = ((4 ^ i : Nat) : Int) := by rw [← e4]; simp
    rw [this]
    omega) (by omega) (by omega) (by
    have : ((2 : Int) ^ (2 * i)) = ((4 ^ i : Nat) : Int) := by rw [← e4]; simp
    rw [this]
    have h6 : k * 4 ^ i % 4 ^ i = 0 := Nat.mul_mod_left ..
    omega) (by omega)
  rw [hj]
  omega
end Go.Proofs.Ytlbjipdkihoojaa.RowsW
