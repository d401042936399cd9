/- A number as nine bytes in its order, plainly. -/
import Derived.Test.YtlbjipdkihoojaaDig
import Derived.Test.YtlbjipdkihoojaaWWords
namespace Go.Proofs.Ytlbjipdkihoojaa.X
open Go
/-- the last bytes of a number, the greatest first -/
def be : Nat → Nat → List Int
  | 0, _ => []
  | i + 1, n => be i (n / 256) ++ [((n % 256 : Nat) : Int)]
theorem be_len : ∀ (i n : Nat), (be i n).length = i
  | 0, _ => rfl
  | i + 1, n => by simp [be, be_len i]
/-- a number, half of all added, the sign turned -/
def key9 (a : Int) : List Int := 2 :: be 8 ((a + 9223372036854775808) % 18446744073709551616).toNat
theorem key_wrap (a : Int) : IntKind.u64.wrap (IntKind.u64.wrap a + 9223372036854775808) = ((((a + 9223372036854775808) % 18446744073709551616).toNat : Nat) : Int) := by
  simp [IntKind.wrap, IntKind.bits, IntKind.signed]
  omega
theorem wrap_byte (n : Nat) : IntKind.u8.wrap (n : Int) = ((n % 256 : Nat) : Int) := by
  simp [IntKind.wrap, IntKind.bits, IntKind.signed]
theorem key9_len (a : Int) : (key9 a).length = 9 := by simp [key9, be_len]
/-- nine cells of bytes -/
def nine (bs : List Int) : Array Value := (bs.map (Value.int .u8)).toArray
theorem nine_cells {W : World} {g : Nat} {bs : List Int} {T : TypeId} (h : W.heap[g]? = some (.cells (nine bs) T (0, 0))) (hl : bs.length = 9) : Cells W g 9 (fun t => bs.getD t 0) := by
  refine ⟨fun t ht => ?_, fun t ht => Go.Proofs.YtlbjipdkihoojaaW.PrintWords.blk_frozen h t⟩
  rw [Go.Proofs.YtlbjipdkihoojaaW.PrintWords.blk_cell h t]
  simp [nine, List.getD_eq_getElem?_getD, show t < bs.length by omega]
theorem nine_reads {W : World} {g : Nat} {bs : List Int} {T : TypeId} (h : W.heap[g]? = some (.cells (nine bs) T (0, 0))) (hl : bs.length = 9) : Go.Proofs.YtlbjipdkihoojaaW.PrintWords.ReadsInt W .u8 (some ⟨g, 0, none⟩) 9 bs :=
  Cells.reads (nine_cells h hl) 0 9 bs (by omega) (by omega) hl (fun j _ => by rw [Nat.zero_add])
/-- the array while bytes are laid from behind -/
def part (i : Nat) (tail : List Int) : List Int := 2 :: (List.replicate i 0 ++ tail)
theorem part_set {i : Nat} {tail : List Int} (v : Int) : (nine (part (i + 1) tail)).setIfInBounds (i + 1) (.int .u8 v) = nine (part i (v :: tail)) := by
  unfold nine part
  rw [List.setIfInBounds_toArray, ← List.map_set, List.set_cons_succ]
  congr 3
  rw [List.replicate_succ', List.append_assoc, List.set_append_right _ _ (by simp)]
  simp
theorem part_get {i : Nat} {tail : List Int} : (nine (part (i + 1) tail))[i + 1]? = some (.int .u8 0) := by
  unfold nine part
  simp [List.getElem?_append_left]
end Go.Proofs.Ytlbjipdkihoojaa.X
