/- Small laws of the walk: a scope whose run goes to its label once. -/
import Derived.ScopeJumps
import Derived.WalkMore
import Derived.WalkKit
import Derived.Lib.BufferMore
namespace Go.Proofs.Ytbmgenifdlgbmaa.X
open Go Go.RowKit
theorem wp_scope_once {P : Program} {a : Act} {w : World} {Q : Exit → Act → World → Prop} {c rest : Code} (l : Nat) (hf : findLabel c l = some rest)
    (first : c.wp P (Exit.jump l (fun a w => rest.wp P (Exit.noGoto Q) a w) Q) a w) : (Code.scope c).wp P Q a w := by
  refine wp_scope_jumps l (fun a w => rest.wp P (Exit.noGoto Q) a w) (fun _ _ => 0) hf first fun a w h => ?_
  refine Code.wp_mono (fun e a' w' hq => ?_) h
  cases e <;> first | exact hq | exact hq.elim
theorem jump_ret {a : Act} {w : World} {Q : Exit → Act → World → Prop} {l : Nat} {J : Act → World → Prop} : Exit.jump l J Q .ret a w = Q .ret a w := rfl
theorem jump_normal {a : Act} {w : World} {Q : Exit → Act → World → Prop} {l : Nat} {J : Act → World → Prop} : Exit.jump l J Q .normal a w = Q .normal a w := rfl
theorem jump_exit {a : Act} {w : World} {Q : Exit → Act → World → Prop} {l : Nat} {J : Act → World → Prop} (i : Nat) : Exit.jump l J Q (.exit i) a w = Q (.exit i) a w := rfl
attribute [go_sem] jump_ret jump_normal jump_exit
/-- a cut of an array of which the address is known, from a place on -/
theorem run_sliceAt_array {P : Program} {w : World} (t e n s : Nat) (b : Nat) (k : IntKind) (l : Int) (ht : P.underlying t = some (.array n e)) (hs : (P.info? e).map (fun i => i.size) = some 1) (h0 : 0 ≤ l) (h1 : l < n) :
    (Instr.sliceAt t (.pointer (some ⟨b, s, none⟩)) (some (.int k l)) none none).run P w = .ok (.slice (some ⟨b, s + l.toNat, none⟩) (n - l.toNat) (n - l.toNat)) w := by
  obtain ⟨i, hi, h2⟩ := Option.map_eq_some_iff.1 hs
  have hne : ¬ n = l.toNat := by omega
  have hb := run_sliceBound (P := P) (w := w) k l n .sliceB h0 (by omega)
  simp [Instr.sliceAt, run_underlying ht, Instr.sureAddr, Instr.sliceBounds, hb, sizeOf, typeInfo, hi, h2, Result.andThen, hne, Addr.add]
theorem wrap_divM (a : Int) : wrap64 ((9223372036854775807 : Int) / a) = (9223372036854775807 : Int) / a := by
  have h1 : ∀ b : Int, 0 < b → 0 ≤ (9223372036854775807 : Int) / b ∧ (9223372036854775807 : Int) / b ≤ 9223372036854775807 := fun b hb => ⟨Int.ediv_nonneg (by omega) (by omega), Int.ediv_le_self b (by omega)⟩
  have h2 : (9223372036854775807 : Int) / a = -((9223372036854775807 : Int) / (-a)) := by
    have := Int.ediv_neg (9223372036854775807 : Int) (-a)
    rw [Int.neg_neg] at this
    exact this
  unfold wrap64
  rcases Int.lt_trichotomy a 0 with h | h | h
  · have := h1 (-a) (by omega)
    omega
  · subst h
    rfl
  · have := h1 a h
    omega
abbrev T : Bool := true
abbrev F : Bool := false
theorem sA {α : Type} (l : List α) (i : Nat) (a : α) : l.toArray.setIfInBounds i a = (l.set i a).toArray := List.setIfInBounds_toArray ..
theorem s0 {α : Type} {a b : α} {l : List α} : (a :: l).set 0 b = b :: l := rfl
theorem s1 {α : Type} {a b : α} {l : List α} {n : Nat} : (a :: l).set (n + 1) b = a :: l.set n b := rfl
theorem tdiv_M (a : Int) : Int.tdiv 9223372036854775807 a = (9223372036854775807 : Int) / a := Int.tdiv_eq_ediv_of_nonneg (by omega)
theorem tdiv_neg (a : Int) : Int.tdiv (-9223372036854775808) a = -Int.tdiv 9223372036854775808 a := Int.neg_tdiv _ _
theorem wrap_tdivM {a : Int} (h : ¬ a = -1) : wrap64 (Int.tdiv (-9223372036854775808) a) = Int.tdiv (-9223372036854775808) a := by
  have h1 : (Int.tdiv (-9223372036854775808) a).natAbs = 9223372036854775808 / a.natAbs := Int.natAbs_tdiv _ a
  have h2 : 9223372036854775808 / a.natAbs ≤ 9223372036854775808 := Nat.div_le_self _ _
  unfold wrap64
  by_cases h3 : a.natAbs = 1
  · have : a = 1 := by omega
    subst this
    rfl
  · by_cases h0 : a = 0
    · subst h0
      rfl
    · have h4 : 9223372036854775808 / a.natAbs ≤ 9223372036854775808 / 2 := Nat.div_le_div_left (by omega) (by omega)
      omega
theorem wrap_div10 {R : Nat} (h : R ≤ 9223372036854775808) : IntKind.u64.wrap ((R : Int) / 10) = ((R / 10 : Nat) : Int) := by
  simp [IntKind.wrap, IntKind.bits, IntKind.signed]
  omega
theorem wrap_neg {a : Int} (h0 : -9223372036854775808 ≤ a) (h : a < 0) : IntKind.u64.wrap (-IntKind.u64.wrap a) = (a.natAbs : Int) := by
  simp [IntKind.wrap, IntKind.bits, IntKind.signed]
  omega
theorem wrap_pos {a : Int} (h1 : a ≤ 9223372036854775807) (h : ¬ a < 0) : IntKind.u64.wrap a = (a.natAbs : Int) := by
  simp [IntKind.wrap, IntKind.bits, IntKind.signed]
  omega
end Go.Proofs.Ytbmgenifdlgbmaa.X
