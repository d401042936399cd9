/- Words and contracts: a plain machine over the model, and what the functions that a law reaches come to, each for every input that its theorem names. -/
import Derived.Test.YtnafgpgbedcdnaaDoorProg
import Derived.Test.YtnafgpgbedcdnaaDoorV2
namespace Go.Proofs.YtnafgpgbedcdnaaDoor.D
set_option linter.unusedVariables false
set_option linter.unusedSimpArgs false
open Go Go.Proofs.YtnafgpgbedcdnaaDoor.D.Pm
def tt : TTree := (.node (.node (.node (.node (.node .nil 1 ⟨.fn, 1, 8, [.nilFunc]⟩ .nil) 2 ⟨.i .i64, 1, 8, [.int .i64 0]⟩ (.node .nil 3 ⟨.i .i64, 1, 8, [.int .i64 0]⟩ .nil)) 4 ⟨.b, 1, 1, [.bool false]⟩ (.node (.node .nil 5 ⟨.i .u8, 1, 1, [.int .u8 0]⟩ .nil) 9 ⟨.s, 1, 16, [.string ⟨#[]⟩]⟩ (.node .nil 10 ⟨.s, 1, 16, [.string ⟨#[]⟩]⟩ .nil))) 11 ⟨.s, 1, 16, [.string ⟨#[]⟩]⟩ (.node (.node (.node .nil 15 ⟨.pt 82, 1, 8, [.pointer none]⟩ .nil) 16 ⟨.pt 85, 1, 8, [.pointer none]⟩ (.node .nil 17 ⟨.pt 93, 1, 8, [.pointer none]⟩ .nil)) 21 ⟨.i .i32, 1, 4, [.int .i32 0]⟩ (.node (.node .nil 23 ⟨.st [(0, 3), (1, 3), (2, 9)], 3, 32, [.int .i64 0, .int .i64 0, .string ⟨#[]⟩]⟩ .nil) 26 ⟨.i .i64, 1, 8, [.int .i64 0]⟩ .nil))) 34 ⟨.i .i64, 1, 8, [.int .i64 0]⟩ (.node (.node (.node (.node .nil 38 ⟨.sl 23, 1, 24, [.slice none 0 0]⟩ .nil) 49 ⟨.i .u64, 1, 8, [.int .u64 0]⟩ (.node .nil 50 ⟨.ay 20 5, 20, 20, [.int .u8 0, .int .u8 0, .int .u8 0, .int .u8 0, .int .u8 0, .int .u8 0, .int .u8 0, .int .u8 0, .int .u8 0, .int .u8 0, .int .u8 0, .int .u8 0, .int .u8 0, .int .u8 0, .int .u8 0, .int .u8 0, .int .u8 0, .int .u8 0, .int .u8 0, .int .u8 0]⟩ .nil)) 51 ⟨.sl 5, 1, 24, [.slice none 0 0]⟩ (.node (.node .nil 53 ⟨.sl 3, 1, 24, [.slice none 0 0]⟩ .nil) 57 ⟨.pt 59, 1, 8, [.pointer none]⟩ .nil)) 59 ⟨.st [(0, 57), (1, 51)], 2, 32, [.pointer none, .slice none 0 0]⟩ (.node (.node (.node .nil 68 ⟨.pt 5, 1, 8, [.pointer none]⟩ .nil) 74 ⟨.ay 256 5, 256, 256, [.int .u8 0, .int .u8 0, .int .u8 0, .int .u8 0, .int .u8 0, .int .u8 0, .int .u8 0, .int .u8 0, .int .u8 0, .int .u8 0, .int .u8 0, .int .u8 0, .int .u8 0, .int .u8 0, .int .u8 0, .int .u8 0, .int .u8 0, .int .u8 0, .int .u8 0, .int .u8 0, .int .u8 0, .int .u8 0, .int .u8 0, .int .u8 0, .int .u8 0, .int .u8 0, .int .u8 0, .int .u8 0, .int .u8 0, .int .u8 0, .int .u8 0, .int .u8 0, .int .u8 0, .int .u8 0, .int .u8 0, .int .u8 0, .int .u8 0, .int .u8 0, .int .u8 0, .int .u8 0, .int .u8 0, .int .u8 0, .int .u8 0, .int .u8 0, .int .u8 0, .int .u8 0, .int .u8 0, .int .u8 0, .int .u8 0, .int .u8 0, .int .u8 0, .int .u8 0, .int .u8 0, .int .u8 0, .int .u8 0, .int .u8 0, .int .u8 0, .int .u8 0, .int .u8 0, .int .u8 0, .int .u8 0, .int .u8 0, .int .u8 0, .int .u8 0, .int .u8 0, .int .u8 0, .int .u8 0, .int .u8 0, .int .u8 0, .int .u8 0, .int .u8 0, .int .u8 0, .int .u8 0, .int .u8 0, .int .u8 0, .int .u8 0, .int .u8 0, .int .u8 0, .int .u8 0, .int .u8 0, .int .u8 0, .int .u8 0, .int .u8 0, .int .u8 0, .int .u8 0, .int .u8 0, .int .u8 0, .int .u8 0, .int .u8 0, .int .u8 0, .int .u8 0, .int .u8 0, .int .u8 0, .int .u8 0, .int .u8 0, .int .u8 0, .int .u8 0, .int .u8 0, .int .u8 0, .int .u8 0, .int .u8 0, .int .u8 0, .int .u8 0, .int .u8 0, .int .u8 0, .int .u8 0, .int .u8 0, .int .u8 0, .int .u8 0, .int .u8 0, .int .u8 0, .int .u8 0, .int .u8 0, .int .u8 0, .int .u8 0, .int .u8 0, .int .u8 0, .int .u8 0, .int .u8 0, .int .u8 0, .int .u8 0, .int .u8 0, .int .u8 0, .int .u8 0, .int .u8 0, .int .u8 0, .int .u8 0, .int .u8 0, .int .u8 0, .int .u8 0, .int .u8 0, .int .u8 0, .int .u8 0, .int .u8 0, .int .u8 0, .int .u8 0, .int .u8 0, .int .u8 0, .int .u8 0, .int .u8 0, .int .u8 0, .int .u8 0, .int .u8 0, .int .u8 0, .int .u8 0, .int .u8 0, .int .u8 0, .int .u8 0, .int .u8 0, .int .u8 0, .int .u8 0, .int .u8 0, .int .u8 0, .int .u8 0, .int .u8 0, .int .u8 0, .int .u8 0, .int .u8 0, .int .u8 0, .int .u8 0, .int .u8 0, .int .u8 0, .int .u8 0, .int .u8 0, .int .u8 0, .int .u8 0, .int .u8 0, .int .u8 0, .int .u8 0, .int .u8 0, .int .u8 0, .int .u8 0, .int .u8 0, .int .u8 0, .int .u8 0, .int .u8 0, .int .u8 0, .int .u8 0, .int .u8 0, .int .u8 0, .int .u8 0, .int .u8 0, .int .u8 0, .int .u8 0, .int .u8 0, .int .u8 0, .int .u8 0, .int .u8 0, .int .u8 0, .int .u8 0, .int .u8 0, .int .u8 0, .int .u8 0, .int .u8 0, .int .u8 0, .int .u8 0, .int .u8 0, .int .u8 0, .int .u8 0, .int .u8 0, .int .u8 0, .int .u8 0, .int .u8 0, .int .u8 0, .int .u8 0, .int .u8 0, .int .u8 0, .int .u8 0, .int .u8 0, .int .u8 0, .int .u8 0, .int .u8 0, .int .u8 0, .int .u8 0, .int .u8 0, .int .u8 0, .int .u8 0, .int .u8 0, .int .u8 0, .int .u8 0, .int .u8 0, .int .u8 0, .int .u8 0, .int .u8 0, .int .u8 0, .int .u8 0, .int .u8 0, .int .u8 0, .int .u8 0, .int .u8 0, .int .u8 0, .int .u8 0, .int .u8 0, .int .u8 0, .int .u8 0, .int .u8 0, .int .u8 0, .int .u8 0, .int .u8 0, .int .u8 0, .int .u8 0, .int .u8 0, .int .u8 0, .int .u8 0, .int .u8 0, .int .u8 0, .int .u8 0, .int .u8 0, .int .u8 0, .int .u8 0, .int .u8 0, .int .u8 0, .int .u8 0, .int .u8 0, .int .u8 0, .int .u8 0]⟩ (.node .nil 76 ⟨.st [(0, 5), (1, 5)], 2, 2, [.int .u8 0, .int .u8 0]⟩ .nil)) 77 ⟨.ay 16 76, 32, 32, [.int .u8 0, .int .u8 0, .int .u8 0, .int .u8 0, .int .u8 0, .int .u8 0, .int .u8 0, .int .u8 0, .int .u8 0, .int .u8 0, .int .u8 0, .int .u8 0, .int .u8 0, .int .u8 0, .int .u8 0, .int .u8 0, .int .u8 0, .int .u8 0, .int .u8 0, .int .u8 0, .int .u8 0, .int .u8 0, .int .u8 0, .int .u8 0, .int .u8 0, .int .u8 0, .int .u8 0, .int .u8 0, .int .u8 0, .int .u8 0, .int .u8 0, .int .u8 0]⟩ (.node (.node .nil 78 ⟨.i .u32, 1, 4, [.int .u32 0]⟩ .nil) 88 ⟨.i .u8, 1, 1, [.int .u8 0]⟩ .nil))))
theorem TP : TOk Tryd.prog tt.get := tok (by kernel_rfl)
theorem mixed : Tryd.prog.follows .mixedOrders = true := by kernel_rfl
end Go.Proofs.YtnafgpgbedcdnaaDoor.D
namespace Go.Proofs.YtnafgpgbedcdnaaDoor.D
set_option linter.unusedVariables false
set_option linter.unusedSimpArgs false
open Go Go.Proofs.YtnafgpgbedcdnaaDoor.D.Pm
def small (c : Int) : Bool := decide (97 ≤ c ∧ c ≤ 122)
def capital (c : Int) : Bool := decide (65 ≤ c ∧ c ≤ 90)
def digit (c : Int) : Bool := decide (48 ≤ c ∧ c ≤ 57)
/-- the bytes of a word; of a key -/
def wordc (c : Int) : Bool := small c || digit c || decide (c = 95)
def keyc (c : Int) : Bool := capital c || decide (c = 95)
def gluec (c : Int) : Bool := small c || capital c || digit c || decide (c = 95) || decide (c = 36)
end Go.Proofs.YtnafgpgbedcdnaaDoor.D
namespace Go.Proofs.YtnafgpgbedcdnaaDoor.D
set_option linter.unusedVariables false
set_option linter.unusedSimpArgs false
open Go Go.Proofs.YtnafgpgbedcdnaaDoor.D.Pm
def run (p : Int → Bool) (s : ByteArray) : Nat → Nat → Nat
  | _, 0 => 0
  | k, m + 1 => if k < s.size then (if p (by_ s k) = true then run p s (k + 1) m + 1 else 0) else 0
theorem run_no {p : Int → Bool} {s : ByteArray} {k m : Nat} (h : ¬ k < s.size) : run p s k m = 0 := by cases m <;> simp [run, h]
theorem run_np {p : Int → Bool} {s : ByteArray} {k m : Nat} (h : p (by_ s k) = false) : run p s k m = 0 := by cases m <;> simp [run, h]
end Go.Proofs.YtnafgpgbedcdnaaDoor.D
namespace Go.Proofs.YtnafgpgbedcdnaaDoor.D
set_option linter.unusedVariables false
set_option linter.unusedSimpArgs false
open Go Go.Proofs.YtnafgpgbedcdnaaDoor.D.Pm
def strC (x : ByteArray) : List AC := [.v (.string x)]
def eS (l : List ByteArray) : AC := .sl 1 (l.map strC)
def hasPre (s t : ByteArray) : Bool := decide (t.size ≤ s.size ∧ s.extract 0 t.size = t)
theorem hasPre0_is (s t : ByteArray) (hs : s.size ≤ Big) : Is Tryd.prog 23 [vS s, vS t] (vB (hasPre s t)) := by
  refine Is.of TP Tryd.func23 rfl rfl (Nat.le_of_ble_eq_true rfl) fun st => Pw.of TP [] ?_
  conv => whnf
  repeat' (first | (refine ⟨fun h => ?_, fun h => ?_⟩ <;> conv => whnf) | fail)
  · refine ⟨by simp, by simp, by omega, ?_⟩
    conv => whnf
    repeat' (first | (refine ⟨fun h => ?_, fun h => ?_⟩ <;> conv => whnf) | fail)
    · (refine Fin.old (congrArg vB ?_) (.refl _); simp at *; simp [hasPre, *])
    · (refine Fin.old (congrArg vB ?_) (.refl _); simp at *; simp [hasPre, *])
  · (refine Fin.old (congrArg vB ?_) (.refl _); simp at *; simp [hasPre]; omega)
theorem hasPre_is (s t : ByteArray) (hs : s.size ≤ Big) : Is Tryd.prog 13 [vS s, vS t] (vB (hasPre s t)) := by
  refine Is.of TP Tryd.func13 rfl rfl (Nat.le_of_ble_eq_true rfl) fun st => Pw.of TP [] ?_
  conv => whnf
  refine Is.callB (hasPre0_is _ _ hs) fun b hb => ?_
  conv => whnf
  (refine Fin.old (congrArg vB ?_) (.refl _); simp [hb])
def signs1 : List ByteArray := [⟨#[60, 62]⟩, ⟨#[60, 61]⟩, ⟨#[62, 61]⟩, ⟨#[124, 124]⟩]
def signs2 : List ByteArray := [⟨#[40]⟩, ⟨#[41]⟩, ⟨#[44]⟩, ⟨#[61]⟩, ⟨#[60]⟩, ⟨#[62]⟩, ⟨#[43]⟩, ⟨#[45]⟩, ⟨#[42]⟩, ⟨#[47]⟩, ⟨#[37]⟩]
def signOf (s : ByteArray) : Nat := ((signs1 ++ signs2).find? (hasPre s)).elim 0 ByteArray.size
theorem find_at {α : Type} {p : α → Bool} : ∀ {l : List α} {j : Nat} (h : j < l.length), (∀ x ∈ l.take j, p x = false) → p l[j] = true → l.find? p = some l[j]
  | a :: l, 0, h, hn, hp => by simp at hp; simp [List.find?, hp]
  | a :: l, j + 1, h, hn, hp => by
    have ha : p a = false := hn a (by simp)
    simp only [List.find?, ha]
    simpa using find_at (l := l) (j := j) (by simpa using h) (fun x hx => hn x (by simp [hx])) (by simpa using hp)
theorem find_no {α : Type} {p : α → Bool} {l : List α} (h : ∀ x ∈ l, p x = false) : l.find? p = none := by
  rw [List.find?_eq_none]; intro x hx; simp [h x hx]
end Go.Proofs.YtnafgpgbedcdnaaDoor.D
namespace Go.Proofs.YtnafgpgbedcdnaaDoor.D
set_option linter.unusedVariables false
set_option linter.unusedSimpArgs false
open Go Go.Proofs.YtnafgpgbedcdnaaDoor.D.Pm
def quo (s : ByteArray) : Nat → Nat → Nat
  | 0, _ => 0
  | f + 1, i => if i < s.size then (if by_ s i < 32 then 0 else if 126 < by_ s i then 0 else if by_ s i = 39 then (if i + 1 < s.size then (if by_ s (i + 1 : Nat) = 39 then quo s f (i + 2) else i + 1) else i + 1) else quo s f (i + 1)) else 0
def quoted (s : ByteArray) : Nat := quo s s.size 1
end Go.Proofs.YtnafgpgbedcdnaaDoor.D
namespace Go.Proofs.YtnafgpgbedcdnaaDoor.D
set_option linter.unusedVariables false
set_option linter.unusedSimpArgs false
open Go Go.Proofs.YtnafgpgbedcdnaaDoor.D.Pm
def alone (s : ByteArray) (n : Nat) : Nat := if n < s.size ∧ gluec (by_ s n) = true then 0 else n
def one (s : ByteArray) : Nat × Nat :=
  if small (by_ s 0) = true then (1, alone s (run wordc s 0 12))
  else if capital (by_ s 0) = true then (2, alone s (run keyc s 0 16))
  else if by_ s 0 = 48 then (3, alone s 1)
  else if digit (by_ s 0) = true then (3, alone s (run digit s 0 19))
  else if by_ s 0 = 39 then (4, quoted s)
  else if by_ s 0 = 36 then (if s.size < 2 then (5, 0) else if by_ s 1 < 49 then (5, 0) else if 54 < by_ s 1 then (5, 0) else (5, alone s 2))
  else (6, signOf s)
theorem oneE {s : ByteArray} {a b : Nat} (e : one s = (a, b)) : tupl [vI .i64 a, vI .i64 b] = .t [vI .i64 (one s).1, vI .i64 (one s).2] := by rw [e]; rfl
def eTok (k at_ : Int) (s : ByteArray) : List AC := [.v (.int .i64 k), .v (.string s), .v (.int .i64 at_)]
def right (k at_ : Int) (s : ByteArray) : Bool :=
  if at_ < 0 then false else if s = ⟨#[]⟩ then decide (k = 7) else decide ((one s).2 = s.size ∧ ((one s).1 : Int) = k)
def isName (s : ByteArray) : Bool := right 1 0 s
end Go.Proofs.YtnafgpgbedcdnaaDoor.D
namespace Go.Proofs.YtnafgpgbedcdnaaDoor.D
set_option linter.unusedVariables false
set_option linter.unusedSimpArgs false
open Go Go.Proofs.YtnafgpgbedcdnaaDoor.D.Pm
def anyTo (s : ByteArray) (c : Int) : Nat → Bool
  | 0 => false
  | n + 1 => anyTo s c n || decide (by_ s n = c)
def memB (s : ByteArray) (c : Int) : Bool := anyTo s c s.size
def allN (s : ByteArray) (p : Int → Bool) : Nat → Nat → Bool
  | _, 0 => true
  | k, n + 1 => p (by_ s k) && allN s p (k + 1) n
def allB (s : ByteArray) (k : Nat) (p : Int → Bool) : Bool := allN s p k (s.size - k)
theorem allB_end {s : ByteArray} {k : Nat} {p : Int → Bool} (h : ¬ k < s.size) : allB s k p = true := by
  unfold allB; rw [show s.size - k = 0 by omega]; rfl
theorem allB_on {s : ByteArray} {k : Nat} {p : Int → Bool} (h : k < s.size) : allB s k p = (p (by_ s k) && allB s (k + 1) p) := by
  unfold allB; rw [show s.size - k = (s.size - (k + 1)) + 1 by omega]; rfl
def plainc (c : Int) : Bool := decide (32 ≤ c ∧ c ≤ 126)
def plain (s : ByteArray) : Bool := allB s 0 plainc
theorem plain_is (s : ByteArray) (hs : s.size ≤ Big) : Is Tryd.prog 18 [vS s] (vB (plain s)) := by
  refine Is.of TP Tryd.func18 rfl rfl (Nat.le_of_ble_eq_true rfl) fun st => Pw.of TP [] ?_
  conv => whnf
  refine Pw.rng (τ := Unit) 6 s.size hs [0, 5] (fun _ => []) (fun i _ => plain s = allB s i plainc) () rfl trivial rfl fun i _ hi hx => Pw.of TP [] ?_
  conv => whnf
  repeat' (first | (refine ⟨fun h => ?_, fun h => ?_⟩ <;> conv => whnf) | fail)
  · have hi' : i < s.size := by omega
    rw [allB_on hi'] at hx
    refine ⟨by omega, by omega, ?_⟩
    conv => whnf
    repeat' (first | (refine ⟨fun h => ?_, fun h => ?_⟩ <;> conv => whnf) | fail)
    · (refine Fin.old (congrArg vB ?_) (.refl _); rw [hx]; simp [plainc]; omega)
    · refine ⟨by omega, by omega, ?_⟩
      conv => whnf
      repeat' (first | (refine ⟨fun h => ?_, fun h => ?_⟩ <;> conv => whnf) | fail)
      · (refine Fin.old (congrArg vB ?_) (.refl _); rw [hx]; simp [plainc]; omega)
      · exact ⟨hi', rfl, ⟨rfl, rfl, trivial⟩, (), trivial, .refl _, by rw [hx]; simp [plainc]; omega⟩
  · (refine Fin.old (congrArg vB ?_) (.refl _); rw [hx, allB_end (by omega)])
end Go.Proofs.YtnafgpgbedcdnaaDoor.D
namespace Go.Proofs.YtnafgpgbedcdnaaDoor.D
set_option linter.unusedVariables false
set_option linter.unusedSimpArgs false
open Go Go.Proofs.YtnafgpgbedcdnaaDoor.D.Pm
set_option maxRecDepth 4000
def smalls : ByteArray := ⟨#[97, 98, 99, 100, 101, 102, 103, 104, 105, 106, 107, 108, 109, 110, 111, 112, 113, 114, 115, 116, 117, 118, 119, 120, 121, 122]⟩
def wordS : ByteArray := ⟨#[97, 98, 99, 100, 101, 102, 103, 104, 105, 106, 107, 108, 109, 110, 111, 112, 113, 114, 115, 116, 117, 118, 119, 120, 121, 122, 48, 49, 50, 51, 52, 53, 54, 55, 56, 57, 95]⟩
def capitals : ByteArray := ⟨#[65, 66, 67, 68, 69, 70, 71, 72, 73, 74, 75, 76, 77, 78, 79, 80, 81, 82, 83, 84, 85, 86, 87, 88, 89, 90]⟩
def keyS : ByteArray := ⟨#[65, 66, 67, 68, 69, 70, 71, 72, 73, 74, 75, 76, 77, 78, 79, 80, 81, 82, 83, 84, 85, 86, 87, 88, 89, 90, 95]⟩
def digitS : ByteArray := ⟨#[48, 49, 50, 51, 52, 53, 54, 55, 56, 57]⟩
def rsigns : List ByteArray := [⟨#[40]⟩, ⟨#[41]⟩, ⟨#[44]⟩, ⟨#[61]⟩, ⟨#[60, 62]⟩, ⟨#[60]⟩, ⟨#[60, 61]⟩, ⟨#[62]⟩, ⟨#[62, 61]⟩, ⟨#[43]⟩, ⟨#[45]⟩, ⟨#[42]⟩, ⟨#[47]⟩, ⟨#[37]⟩, ⟨#[124, 124]⟩]
def rsign (s : ByteArray) : Bool := rsigns.any fun t => decide (s = t)
def rqL (s : ByteArray) : Nat → Nat → Nat → Bool
  | 0, _, n => decide (n % 2 = 0)
  | f + 1, k, n => if by_ s k = 39 then rqL s f (k + 1) (n + 1) else if n % 2 = 1 then false else rqL s f (k + 1) n
def rquoted (s : ByteArray) : Bool := if s.size < 2 then false else if by_ s 0 = 39 then (if by_ s (s.size - 1 : Nat) = 39 then (if plain s = true then rqL s (s.size - 2) 1 0 else false) else false) else false
end Go.Proofs.YtnafgpgbedcdnaaDoor.D
namespace Go.Proofs.YtnafgpgbedcdnaaDoor.D
set_option linter.unusedVariables false
set_option linter.unusedSimpArgs false
open Go Go.Proofs.YtnafgpgbedcdnaaDoor.D.Pm
set_option maxRecDepth 4000
def kw1 (s : ByteArray) : Bool := decide (s.size ≤ 12) && (allB (s.extract 0 1) 0 (memB smalls) && allB s 1 (memB wordS))
def kw2 (s : ByteArray) : Bool := decide (s.size ≤ 16) && (allB (s.extract 0 1) 0 (memB capitals) && allB s 1 (memB keyS))
def kw3 (s : ByteArray) : Bool := decide (s.size ≤ 19) && (allB s 0 (memB digitS) && (decide (s = ⟨#[48]⟩) || !decide (by_ s 0 = 48)))
def kw5 (s : ByteArray) : Bool := decide (s.size = 2) && (decide (by_ s 0 = 36) && (decide (49 ≤ by_ s 1) && decide (by_ s 1 ≤ 54)))
def rkind (s : ByteArray) : Nat := if s = ⟨#[]⟩ then 7 else if kw1 s = true then 1 else if kw2 s = true then 2 else if kw3 s = true then 3 else if rquoted s = true then 4 else if kw5 s = true then 5 else if rsign s = true then 6 else 0
theorem size_ext (s : ByteArray) (hs : s.size ≤ Big) (a b : Nat) : (s.extract a b).size ≤ Big := by
  rw [ByteArray.size_extract]; omega
end Go.Proofs.YtnafgpgbedcdnaaDoor.D
namespace Go.Proofs.YtnafgpgbedcdnaaDoor.D
set_option linter.unusedVariables false
set_option linter.unusedSimpArgs false
open Go Go.Proofs.YtnafgpgbedcdnaaDoor.D.Pm
set_option maxRecDepth 4000
structure Val where
  k : Int
  n : Int
  s : ByteArray
inductive Ex where
  | mk (k op : Int) (v : Val) (name : ByteArray) (kids : List Ex)
def eV (v : Val) : List AC := [.v (.int .i64 v.k), .v (.int .i64 v.n), .v (.string v.s)]
mutual
def eE : Ex → List AC
  | .mk k op v name kids => [.v (.int .i64 k), .v (.int .i64 op), .v (.int .i64 v.k), .v (.int .i64 v.n), .v (.string v.s), .v (.string name), .sl 7 (eEs kids)]
def eEs : List Ex → List (List AC)
  | [] => []
  | e :: l => eE e :: eEs l
end
theorem eEs_map : ∀ l, eEs l = l.map eE
  | [] => rfl
  | e :: l => by rw [eEs, eEs_map l]; rfl
def vright (v : Val) : Bool :=
  if v.k = 0 then decide (v.n = 0 ∧ v.s = ⟨#[]⟩)
  else if v.k = 1 then decide (v.s = ⟨#[]⟩)
  else if v.k = 2 then decide (v.s = ⟨#[]⟩ ∧ (v.n = 0 ∨ v.n = 1))
  else if v.k = 3 then decide (v.n = 0 ∧ v.s.size ≤ 32) && plain v.s
  else false
theorem vright_is (v : Val) (hs : v.s.size ≤ Big) : Is Tryd.prog 9 [.g (eV v)] (vB (vright v)) := by
  refine Is.of TP Tryd.func9 rfl rfl (Nat.le_of_ble_eq_true rfl) fun st => Pw.of TP [] ?_
  conv => whnf
  repeat' (first | (refine ⟨fun h => ?_, fun h => ?_⟩ <;> conv => whnf) | (refine Is.callB (plain_is _ hs) fun b hb => ?_; cases b <;> conv => whnf) | fail)
  all_goals (refine Fin.old (congrArg vB ?_) (.refl _); first | (simp [vright, *]; done) | (simp [vright, *] <;> omega) | (simp_all [vright]; done))
def vright' (v : Val) : Bool := vright v
end Go.Proofs.YtnafgpgbedcdnaaDoor.D
namespace Go.Proofs.YtnafgpgbedcdnaaDoor.D
set_option linter.unusedVariables false
set_option linter.unusedSimpArgs false
open Go Go.Proofs.YtnafgpgbedcdnaaDoor.D.Pm
set_option maxRecDepth 4000
def iC (t : Int) : List AC := [.v (.int .i64 t)]
def nfR (p : Int × Int) : AV := .t [vI .i64 p.1, vI .i64 p.2]
theorem Fin.nf {x y : Int} {p : Int × Int} {st st0 : Sto} (e : (x, y) = p) (h : Le st0 st) : Fin (fun r s => r = nfR p ∧ s = st0) (tupl [vI .i64 x, vI .i64 y]) st := .old (by rw [← e]; rfl) h
def vknown (v : Val) : Bool := decide (0 ≤ v.k ∧ v.k ≤ 3)
def cmpI (a b : Int) : Int := if a < b then -1 else if b < a then 1 else 0
def cmpS (a b : ByteArray) : Int := if Op.bytesLess a.toList b.toList = true then -1 else if (!(Op.bytesLess a.toList b.toList || decide (a = b))) = true then 1 else 0
def firstN (l : List Int) : Int := (l.find? (fun t => !decide (t = 0))).getD 0
def vorder (a b : Val) : Int := firstN [cmpI a.k b.k, cmpI a.n b.n, cmpS a.s b.s]
def opIs (op n : Int) : Bool := if op = 3 then decide (n = 0) else if op = 4 then decide (¬ n = 0) else if op = 5 then decide (n < 0) else if op = 6 then decide (n ≤ 0) else if op = 7 then decide (0 < n) else decide (0 ≤ n)
def vcompare (op : Int) (a b : Val) : Int × Int :=
  if op < 3 ∨ 8 < op ∨ vknown a = false ∨ vknown b = false then (0, 11) else if a.k = 0 ∨ b.k = 0 then (2, 0) else if a.k ≠ b.k then (0, 11) else if opIs op (vorder a b) = true then (1, 0) else (0, 0)
theorem vknown_is (v : Val) : Is Tryd.prog 22 [.g (eV v)] (vB (vknown v)) := by
  refine Is.of TP Tryd.func22 rfl rfl (Nat.le_of_ble_eq_true rfl) fun st => Pw.of TP [] ?_
  conv => whnf
  repeat' (first | (refine ⟨fun h => ?_, fun h => ?_⟩ <;> conv => whnf) | fail)
  all_goals (refine Fin.old (congrArg vB ?_) (.refl _); simp [vknown, *])
theorem nanI_is (a : Int) : Is Tryd.prog 29 [vI .i64 a] (vB false) := by
  refine Is.of TP Tryd.func29 rfl rfl (Nat.le_of_ble_eq_true rfl) fun st => Pw.of TP [] ?_
  conv => whnf
  refine ⟨fun h => ?_, fun h => ?_⟩ <;> conv => whnf
  · exact absurd rfl h
  · exact Fin.old rfl (.refl _)
theorem nanS_is (a : ByteArray) : Is Tryd.prog 30 [vS a] (vB false) := by
  refine Is.of TP Tryd.func30 rfl rfl (Nat.le_of_ble_eq_true rfl) fun st => Pw.of TP [] ?_
  conv => whnf
  refine ⟨fun h => ?_, fun h => ?_⟩ <;> conv => whnf
  · exact absurd rfl h
  · exact Fin.old rfl (.refl _)
theorem cmpI_is (a b : Int) : Is Tryd.prog 20 [vI .i64 a, vI .i64 b] (vI .i64 (cmpI a b)) := by
  refine Is.of TP Tryd.func20 rfl rfl (Nat.le_of_ble_eq_true rfl) fun st => Pw.of TP [] ?_
  conv => whnf
  refine (nanI_is a).call ?_
  conv => whnf
  refine (nanI_is b).call ?_
  conv => whnf
  repeat' (first | (refine ⟨fun h => ?_, fun h => ?_⟩ <;> conv => whnf) | fail)
  all_goals refine Fin.old (congrArg (vI .i64) ?_) (.refl _)
  all_goals simp [cmpI, *]
theorem cmpS_is (a b : ByteArray) : Is Tryd.prog 21 [vS a, vS b] (vI .i64 (cmpS a b)) := by
  refine Is.of TP Tryd.func21 rfl rfl (Nat.le_of_ble_eq_true rfl) fun st => Pw.of TP [] ?_
  conv => whnf
  refine (nanS_is a).call ?_
  conv => whnf
  refine (nanS_is b).call ?_
  conv => whnf
  cases e : Op.bytesLess a.toList b.toList <;> conv => whnf
  · cases e2 : (!(Op.bytesLess a.toList b.toList || decide (a = b))) <;> conv => whnf
    · exact Fin.old (congrArg (vI .i64) (by unfold cmpS; rw [if_neg (by rw [e]; decide), if_neg (by rw [e2]; decide)])) (.refl _)
    · exact Fin.old (congrArg (vI .i64) (by unfold cmpS; rw [if_neg (by rw [e]; decide), if_pos e2])) (.refl _)
  · exact Fin.old (congrArg (vI .i64) (by simp [cmpS, e])) (.refl _)
theorem or_is (l : List Int) (hl : l.length ≤ Big) : Is Tryd.prog 28 [.c (.sl 1 (l.map iC))] (vI .i64 (firstN l)) := by
  refine Is.of TP Tryd.func28 rfl rfl (Nat.le_of_ble_eq_true rfl) fun st => Pw.of TP [] ?_
  conv => whnf
  refine Pw.rng (τ := Unit) 8 (l.map iC).length (by simpa using hl) [0, 3, 6, 7] (fun _ => []) (fun i _ => ∀ t ∈ l.take i, t = 0) () rfl trivial (fun t h => by simp at h) fun i _ hi hx => Pw.of TP [] ?_
  conv => whnf
  refine ⟨fun h => ?_, fun h => ?_⟩ <;> conv => whnf
  · have hi' : i < l.length := lt_map h
    refine ixm hi' ?_
    conv => whnf
    refine ⟨fun h => ?_, fun h => ?_⟩ <;> conv => whnf
    · refine Fin.old (congrArg (vI .i64) ?_) (.refl _)
      unfold firstN
      rw [find_at hi' (fun x hx2 => by simp [hx x hx2]) (by simpa using ‹_›)]; rfl
    · exact ⟨by simpa using hi', rfl, ⟨rfl, rfl, rfl, rfl, trivial⟩, (), trivial, .refl _, fun t ht => by
        rw [List.take_succ_eq_append_getElem hi'] at ht
        rcases List.mem_append.1 ht with ht | ht
        · exact hx t ht
        · simp at ht; subst ht; simp_all⟩
  · have hi' := nlt_map h (by simpa using hi)
    refine Fin.old (congrArg (vI .i64) ?_) (.refl _)
    subst hi'
    rw [List.take_length] at hx
    unfold firstN
    rw [find_no (fun x h => by simp [hx x h])]; rfl
theorem first_is (l : List Int) (hl : l.length ≤ Big) : Is Tryd.prog 19 [.c (.sl 1 (l.map iC))] (vI .i64 (firstN l)) := by
  refine Is.of TP Tryd.func19 rfl rfl (Nat.le_of_ble_eq_true rfl) fun st => Pw.of TP [] ?_
  conv => whnf
  refine Is.callI (or_is l hl) fun r hr => ?_
  conv => whnf
  exact Fin.old (congrArg (vI .i64) hr.symm) (.refl _)
theorem Does.arr1 {P : Program} {f : FuncId} {id sz n : Nat} {rows : List (List AC)} {st : Sto} {K : AV → Sto → Prop} (hid : st id = none) (hn : n = rows.length) (hr : ∀ r ∈ rows, r.length = sz) (h : Does P f [.c (.sl sz rows)] st K) : Does P f [.c (.arr id 0 n)] (upd st id (.ar sz rows)) K := by
  subst hn
  refine Does.argsD (as' := [.c (.sl sz rows)]) (st' := st) (only id) (only_old hid _) rfl (fun j r r' h1 h2 => ?_) h
  match j, h1, h2 with
  | 0, h1, h2 => cases h1; cases h2; exact .c _ _ (Fz.arr0 (by simp [only]) (upd_same _ _ _) hr)
  | j + 1, h1, h2 => simp at h1
theorem vorder_is (a b : Val) : Is Tryd.prog 10 [.g (eV a), .g (eV b)] (vI .i64 (vorder a b)) := by
  refine Is.of TP Tryd.func10 rfl rfl (Nat.le_of_ble_eq_true rfl) fun st => Pw.of TP [] ?_
  conv => whnf
  refine Pw.drwC TP mixed [15, 16, 17] (by kernel_rfl) ?_; conv => whnf
  refine Is.drawI (cmpI_is _ _) fun x hx => ?_
  conv => whnf
  refine Is.drawI (cmpI_is _ _) fun y hy => ?_
  conv => whnf
  refine Is.drawI (cmpS_is _ _) fun z hz => ?_
  conv => whnf
  intro id hid
  conv => whnf
  refine Does.arr1 hid rfl (fun r hr => ?_) (Is.callI (first_is [x, y, z] (Nat.le_of_ble_eq_true rfl)) fun r hr => ?_)
  · simp at hr; rcases hr with rfl | rfl | rfl <;> rfl
  conv => whnf
  exact Fin.old (congrArg (vI .i64) (by rw [← hr, ← hx, ← hy, ← hz]; rfl)) (.refl _)
theorem vcompare_is (op : Int) (a b : Val) : Is Tryd.prog 12 [vI .i64 op, .g (eV a), .g (eV b)] (nfR (vcompare op a b)) := by
  refine Is.of TP Tryd.func12 rfl rfl (Nat.le_of_ble_eq_true rfl) fun st => Pw.of TP [] ?_
  conv => whnf
  repeat' (first | (refine ⟨fun h => ?_, fun h => ?_⟩ <;> conv => whnf) | (refine Is.callB (vknown_is _) fun b hb => ?_; cases b <;> conv => whnf) | (refine Is.callI (vorder_is _ _) fun r hr => ?_; conv => whnf))
  all_goals refine Fin.nf ?_ (.refl _)
  all_goals (unfold vcompare; repeat' split)
  all_goals first | rfl | (exfalso; omega) | (exfalso; simp_all; done) | (exfalso; simp_all; omega) | (simp_all [opIs]; done) | (simp_all [opIs]; omega)
end Go.Proofs.YtnafgpgbedcdnaaDoor.D
