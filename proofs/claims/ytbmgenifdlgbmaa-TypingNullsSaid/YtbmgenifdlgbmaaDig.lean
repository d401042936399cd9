/- A number's digits, plainly: one by one, the last one behind; how many they are. -/
import Derived.Test.YtbmgenifdlgbmaaWWords
namespace Go.Proofs.Ytbmgenifdlgbmaa.X
open Go
/-- the digits of a number, as bytes -/
def decI (n : Nat) : List Int := if h : n < 10 then [48 + (n : Int)] else decI (n / 10) ++ [48 + ((n % 10 : Nat) : Int)]
termination_by n
decreasing_by omega
theorem decI_small {n : Nat} (h : n < 10) : decI n = [48 + (n : Int)] := by
  rw [decI, dif_pos h]
theorem decI_big {n : Nat} (h : ¬ n < 10) : decI n = decI (n / 10) ++ [48 + ((n % 10 : Nat) : Int)] := by
  rw [decI, dif_neg h]
theorem decI_len : ∀ (k n : Nat), n < 10 ^ (k + 1) → (decI n).length ≤ k + 1 ∧ 1 ≤ (decI n).length := by
  intro k
  induction k with
  | zero =>
    intro n h
    rw [decI_small (by omega)]
    simp
  | succ k ih =>
    intro n h
    by_cases h1 : n < 10
    · rw [decI_small h1]
      simp
    · rw [decI_big h1, List.length_append]
      have := ih (n / 10) (by rw [Nat.div_lt_iff_lt_mul (by omega)]; rw [Nat.pow_succ] at h; exact h)
      simp
      omega
theorem decI_19 {n : Nat} (h : n ≤ 9223372036854775808) : (decI n).length ≤ 19 ∧ 1 ≤ (decI n).length := decI_len 18 n (by omega)
theorem decI_mem (n : Nat) : ∀ x ∈ decI n, 48 ≤ x ∧ x ≤ 57 := by
  induction n using Nat.strongRecOn with
  | _ n ih =>
    intro x hx
    by_cases h : n < 10
    · rw [decI_small h, List.mem_singleton] at hx
      omega
    · rw [decI_big h, List.mem_append, List.mem_singleton] at hx
      rcases hx with hx | hx
      · exact ih (n / 10) (by omega) x hx
      · omega
/-- a number's digits, with a sign -/
def digI (a : Int) : List Int := if a < 0 then 45 :: decI a.natAbs else decI a.natAbs
theorem digI_neg {a : Int} (h : a ≤ -10) (h0 : -9223372036854775808 ≤ a) : digI a = digI (Int.tdiv a 10) ++ [48 + -(Int.tmod a 10)] := by
  have h1 := Int.tmod_add_mul_tdiv a 10
  have h2 : (Int.tdiv a 10).natAbs = a.natAbs / 10 := Int.natAbs_tdiv a 10
  have h4 : (Int.tmod a 10).natAbs = a.natAbs % 10 := Int.natAbs_tmod a 10
  have h3 : Int.tdiv a 10 < 0 := by omega
  unfold digI
  rw [if_pos (by omega), if_pos h3, decI_big (by omega)]
  have e1 : a.natAbs / 10 = (Int.tdiv a 10).natAbs := h2.symm
  have e2 : ((a.natAbs % 10 : Nat) : Int) = -(Int.tmod a 10) := by omega
  rw [e1, e2]
  rfl
theorem digI_pos {a : Int} (h : 10 ≤ a) : digI a = digI (a / 10) ++ [48 + a % 10] := by
  unfold digI
  rw [if_neg (by omega), if_neg (by omega), decI_big (by omega)]
  have e1 : a.natAbs / 10 = (a / 10).natAbs := by omega
  have e2 : ((a.natAbs % 10 : Nat) : Int) = a % 10 := by omega
  rw [e1, e2]
theorem digI_one {a : Int} (h0 : 0 ≤ a) (h : a < 10) : digI a = [48 + a] := by
  unfold digI
  rw [if_neg (by omega), decI_small (by omega)]
  have e : ((a.natAbs : Nat) : Int) = a := by omega
  rw [e]
theorem digI_mone {a : Int} (h0 : a < 0) (h : -10 < a) : digI a = [45] ++ [48 + -a] := by
  unfold digI
  rw [if_pos h0, decI_small (by omega)]
  have e : ((a.natAbs : Nat) : Int) = -a := by omega
  rw [e]
  rfl
theorem digI_len {a : Int} (h0 : -9223372036854775808 ≤ a) (h1 : a ≤ 9223372036854775807) : (digI a).length ≤ 20 := by
  have := (decI_19 (n := a.natAbs) (by omega)).1
  unfold digI
  split
  · simp
    omega
  · omega
theorem strOf_append (xs ys : List Int) : strOfNums (xs ++ ys) = strOfNums xs ++ strOfNums ys := by
  have h : ∀ a b : ByteArray, a.data.toList = b.data.toList → a = b := by
    intro a b h
    cases a; cases b
    simp at h
    rw [h]
  apply h
  simp [strOfNums]
theorem strOf_size (xs : List Int) : (strOfNums xs).size = xs.length := by
  show (strOfNums xs).data.size = _
  simp [strOfNums]
/-- one digit, cut out of the ten -/
theorem run_digit {P : Program} (t : TypeId) (ht : P.underlying t = some .string) (d : Int) (h0 : 0 ≤ d) (h9 : d ≤ 9) (w : World) :
    (Instr.slice t (.string ⟨#[48, 49, 50, 51, 52, 53, 54, 55, 56, 57]⟩) (some (.int .i64 d)) (some (.int .i64 (d + 1))) none).run P w = .ok (.string (strOfNums [48 + d])) w := by
  have hs : ({ data := #[48, 49, 50, 51, 52, 53, 54, 55, 56, 57] } : ByteArray).size = 10 := rfl
  rw [run_slice_string w t _ .i64 .i64 _ _ ht h0 (by omega) (by rw [hs]; omega)]
  obtain ⟨n, rfl⟩ : ∃ n : Nat, d = n := ⟨d.toNat, by omega⟩
  have hn : n < 10 := by omega
  congr 2
  rcases n with _ | _ | _ | _ | _ | _ | _ | _ | _ | _ | n
  all_goals first | (exfalso; omega) | decide +kernel

/-- a small array of bytes in memory: each cell is known, and may be written -/
def Cells (W : World) (B N : Nat) (G : Nat → Int) : Prop := (∀ t, t < N → W.cell? ⟨B, t, none⟩ = some (.int .u8 (G t))) ∧ ∀ t, t < N → W.frozen? ⟨B, t, none⟩ = false
theorem Cells.store {W : World} {B N : Nat} {G : Nat → Int} (h : Cells W B N G) {i : Nat} (hi : i < N) (v : Int) : Cells (W.setCell ⟨B, i, none⟩ (.int .u8 v)) B N (fun t => if t = i then v else G t) := by
  refine ⟨fun t ht => ?_, fun t ht => ?_⟩
  · by_cases e : t = i
    · subst e
      rw [World.cell?_setCell_same _ _ _ (h.1 t ht)]
      simp
    · rw [World.cell?_setCell_other _ _ _ _ (by intro x; injection x with _ x; exact e x.symm), h.1 t ht]
      simp [e]
  · rw [World.frozen?_setCell]
    exact h.2 t ht
theorem Cells.reads {W : World} {B N : Nat} {G : Nat → Int} (h : Cells W B N G) (o n : Nat) (xs : List Int) (hn : o + n ≤ N) (hb : n ≤ 1000) (hx : xs.length = n) (hxs : ∀ j, j < n → G (o + j) = xs.getD j 0) :
    Go.Proofs.YtbmgenifdlgbmaaW.PrintWords.ReadsInt W .u8 (some ⟨B, o, none⟩) n xs :=
  ⟨hx, by omega, fun _ => ⟨⟨B, o, none⟩, rfl, fun i hi => by
    have z := h.1 (o + i) (by omega)
    rw [hxs i hi] at z
    rw [show (⟨B, o, none⟩ : Addr).add i = ⟨B, o + i, none⟩ by unfold Addr.add; split <;> simp_all]
    exact z⟩⟩
theorem Cells.zeros (w : World) (N T : Nat) : Cells (w.alloc (.cells (List.replicate N (Value.int .u8 0)).toArray T)) w.heap.size N (fun _ => 0) := by
  refine ⟨fun t ht => ?_, fun t ht => ?_⟩
  · rw [World.cell?_alloc_new]
    simp [ht]
  · exact World.frozen?_alloc_new _ _ _ _
end Go.Proofs.Ytbmgenifdlgbmaa.X
