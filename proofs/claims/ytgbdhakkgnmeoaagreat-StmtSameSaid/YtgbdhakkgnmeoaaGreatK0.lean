/- Words and contracts: a plain machine over the model, and what the functions that a law reaches come to, each for every input that its theorem names. -/
import Derived.Test.YtgbdhakkgnmeoaaGreatProg
import Derived.Test.YtgbdhakkgnmeoaaGreatV2
namespace Go.Proofs.YtgbdhakkgnmeoaaGreat.D
set_option linter.unusedVariables false
set_option linter.unusedSimpArgs false
open Go Go.Proofs.YtgbdhakkgnmeoaaGreat.D.Pm
def tt : TTree := (.node (.node (.node (.node (.node (.node .nil 1 ⟨.fn, 1, 8, [.nilFunc]⟩ .nil) 2 ⟨.i .i64, 1, 8, [.int .i64 0]⟩ (.node .nil 3 ⟨.i .i64, 1, 8, [.int .i64 0]⟩ .nil)) 4 ⟨.b, 1, 1, [.bool false]⟩ (.node (.node .nil 5 ⟨.i .u8, 1, 1, [.int .u8 0]⟩ .nil) 6 ⟨.i .u8, 1, 1, [.int .u8 0]⟩ (.node .nil 9 ⟨.s, 1, 16, [.string ⟨#[]⟩]⟩ .nil))) 10 ⟨.s, 1, 16, [.string ⟨#[]⟩]⟩ (.node (.node (.node .nil 11 ⟨.s, 1, 16, [.string ⟨#[]⟩]⟩ .nil) 12 ⟨.i .u64, 1, 8, [.int .u64 0]⟩ (.node .nil 15 ⟨.pt 158, 1, 8, [.pointer none]⟩ .nil)) 16 ⟨.pt 161, 1, 8, [.pointer none]⟩ (.node (.node .nil 17 ⟨.pt 168, 1, 8, [.pointer none]⟩ .nil) 22 ⟨.sl 46, 1, 24, [.slice none 0 0]⟩ (.node .nil 23 ⟨.sl 48, 1, 24, [.slice none 0 0]⟩ .nil)))) 24 ⟨.sl 9, 1, 24, [.slice none 0 0]⟩ (.node (.node (.node (.node .nil 25 ⟨.sl 28, 1, 24, [.slice none 0 0]⟩ .nil) 27 ⟨.st [(0, 3), (1, 3), (2, 9)], 3, 32, [.int .i64 0, .int .i64 0, .string ⟨#[]⟩]⟩ (.node .nil 28 ⟨.sl 30, 1, 24, [.slice none 0 0]⟩ .nil)) 30 ⟨.st [(0, 3), (1, 3), (2, 27), (5, 9), (6, 28)], 7, 88, [.int .i64 0, .int .i64 0, .int .i64 0, .int .i64 0, .string ⟨#[]⟩, .string ⟨#[]⟩, .slice none 0 0]⟩ (.node (.node .nil 31 ⟨.sl 50, 1, 24, [.slice none 0 0]⟩ .nil) 32 ⟨.sl 52, 1, 24, [.slice none 0 0]⟩ (.node .nil 33 ⟨.sl 35, 1, 24, [.slice none 0 0]⟩ .nil))) 35 ⟨.st [(0, 3), (1, 9), (2, 9), (3, 9), (4, 22), (5, 23), (6, 24), (7, 25), (8, 30), (15, 31), (16, 32), (17, 3), (18, 3), (19, 4), (20, 33)], 21, 336, [.int .i64 0, .string ⟨#[]⟩, .string ⟨#[]⟩, .string ⟨#[]⟩, .slice none 0 0, .slice none 0 0, .slice none 0 0, .slice none 0 0, .int .i64 0, .int .i64 0, .int .i64 0, .int .i64 0, .string ⟨#[]⟩, .string ⟨#[]⟩, .slice none 0 0, .slice none 0 0, .slice none 0 0, .int .i64 0, .int .i64 0, .bool false, .slice none 0 0]⟩ (.node (.node (.node .nil 36 ⟨.fn, 1, 8, [.nilFunc]⟩ .nil) 38 ⟨.fn, 1, 8, [.nilFunc]⟩ (.node .nil 39 ⟨.i .i64, 1, 8, [.int .i64 0]⟩ .nil)) 46 ⟨.st [(0, 9), (1, 3), (2, 4)], 3, 32, [.string ⟨#[]⟩, .int .i64 0, .bool false]⟩ (.node (.node .nil 48 ⟨.st [(0, 9), (1, 3), (2, 24), (3, 30), (10, 9), (11, 24)], 12, 176, [.string ⟨#[]⟩, .int .i64 0, .slice none 0 0, .int .i64 0, .int .i64 0, .int .i64 0, .int .i64 0, .string ⟨#[]⟩, .string ⟨#[]⟩, .slice none 0 0, .string ⟨#[]⟩, .slice none 0 0]⟩ .nil) 50 ⟨.st [(0, 9), (1, 30)], 8, 104, [.string ⟨#[]⟩, .int .i64 0, .int .i64 0, .int .i64 0, .int .i64 0, .string ⟨#[]⟩, .string ⟨#[]⟩, .slice none 0 0]⟩ .nil)))) 52 ⟨.st [(0, 30), (7, 4)], 8, 96, [.int .i64 0, .int .i64 0, .int .i64 0, .int .i64 0, .string ⟨#[]⟩, .string ⟨#[]⟩, .slice none 0 0, .bool false]⟩ (.node (.node (.node (.node (.node .nil 56 ⟨.fn, 1, 8, [.nilFunc]⟩ .nil) 58 ⟨.fn, 1, 8, [.nilFunc]⟩ (.node .nil 59 ⟨.fn, 1, 8, [.nilFunc]⟩ .nil)) 60 ⟨.fn, 1, 8, [.nilFunc]⟩ (.node (.node .nil 64 ⟨.fn, 1, 8, [.nilFunc]⟩ .nil) 66 ⟨.pt 72, 1, 8, [.pointer none]⟩ (.node .nil 67 ⟨.pt 70, 1, 8, [.pointer none]⟩ .nil))) 68 ⟨.sl 5, 1, 24, [.slice none 0 0]⟩ (.node (.node (.node .nil 70 ⟨.st [(0, 67), (1, 68)], 2, 32, [.pointer none, .slice none 0 0]⟩ .nil) 72 ⟨.st [(0, 70)], 2, 32, [.pointer none, .slice none 0 0]⟩ (.node .nil 80 ⟨.pt 82, 1, 8, [.pointer none]⟩ .nil)) 82 ⟨.st [(0, 4)], 1, 1, [.bool false]⟩ (.node (.node .nil 84 ⟨.fn, 1, 8, [.nilFunc]⟩ .nil) 87 ⟨.fn, 1, 8, [.nilFunc]⟩ .nil))) 89 ⟨.fn, 1, 8, [.nilFunc]⟩ (.node (.node (.node (.node .nil 91 ⟨.fn, 1, 8, [.nilFunc]⟩ .nil) 95 ⟨.pt 5, 1, 8, [.pointer none]⟩ (.node .nil 97 ⟨.fn, 1, 8, [.nilFunc]⟩ .nil)) 99 ⟨.fn, 1, 8, [.nilFunc]⟩ (.node (.node .nil 101 ⟨.st [(0, 99)], 1, 8, [.nilFunc]⟩ .nil) 111 ⟨.fn, 1, 8, [.nilFunc]⟩ (.node .nil 118 ⟨.st [(0, 3), (1, 9), (2, 3)], 3, 32, [.int .i64 0, .string ⟨#[]⟩, .int .i64 0]⟩ .nil))) 139 ⟨.ay 15 9, 15, 240, [.string ⟨#[]⟩, .string ⟨#[]⟩, .string ⟨#[]⟩, .string ⟨#[]⟩, .string ⟨#[]⟩, .string ⟨#[]⟩, .string ⟨#[]⟩, .string ⟨#[]⟩, .string ⟨#[]⟩, .string ⟨#[]⟩, .string ⟨#[]⟩, .string ⟨#[]⟩, .string ⟨#[]⟩, .string ⟨#[]⟩, .string ⟨#[]⟩]⟩ (.node (.node (.node .nil 140 ⟨.fn, 1, 8, [.nilFunc]⟩ .nil) 145 ⟨.ay 20 5, 20, 20, [.int .u8 0, .int .u8 0, .int .u8 0, .int .u8 0, .int .u8 0, .int .u8 0, .int .u8 0, .int .u8 0, .int .u8 0, .int .u8 0, .int .u8 0, .int .u8 0, .int .u8 0, .int .u8 0, .int .u8 0, .int .u8 0, .int .u8 0, .int .u8 0, .int .u8 0, .int .u8 0]⟩ (.node .nil 146 ⟨.i .u64, 1, 8, [.int .u64 0]⟩ .nil)) 149 ⟨.ay 2 24, 2, 48, [.slice none 0 0, .slice none 0 0]⟩ (.node (.node .nil 154 ⟨.i .u32, 1, 4, [.int .u32 0]⟩ .nil) 163 ⟨.i .u8, 1, 1, [.int .u8 0]⟩ .nil)))))
theorem TP : TOk Tryz.prog tt.get := tok (by kernel_rfl)
theorem mixed : Tryz.prog.follows .mixedOrders = true := by kernel_rfl
end Go.Proofs.YtgbdhakkgnmeoaaGreat.D
namespace Go.Proofs.YtgbdhakkgnmeoaaGreat.D
set_option linter.unusedVariables false
set_option linter.unusedSimpArgs false
open Go Go.Proofs.YtgbdhakkgnmeoaaGreat.D.Pm
def small (c : Int) : Bool := decide (97 ≤ c ∧ c ≤ 122)
def capital (c : Int) : Bool := decide (65 ≤ c ∧ c ≤ 90)
def digit (c : Int) : Bool := decide (48 ≤ c ∧ c ≤ 57)
theorem small_is (c : Int) : Is Tryz.prog 115 [vI .u8 c] (vB (small c)) := by
  refine Is.of TP Tryz.func115 rfl rfl (Nat.le_of_ble_eq_true rfl) fun st => Pw.of TP [] ?_
  conv => whnf
  refine ⟨fun h => ?_, fun h => ?_⟩ <;> conv => whnf
  · refine ⟨fun h => ?_, fun h => ?_⟩ <;> conv => whnf
    · exact Fin.old (congrArg vB (by simp [small]; omega)) (.refl _)
    · exact Fin.old (congrArg vB (by simp [small]; omega)) (.refl _)
  · exact Fin.old (congrArg vB (by simp [small]; omega)) (.refl _)
theorem capital_is (c : Int) : Is Tryz.prog 120 [vI .u8 c] (vB (capital c)) := by
  refine Is.of TP Tryz.func120 rfl rfl (Nat.le_of_ble_eq_true rfl) fun st => Pw.of TP [] ?_
  conv => whnf
  repeat' (first | (refine ⟨fun h => ?_, fun h => ?_⟩ <;> conv => whnf) | fail)
  all_goals (refine Fin.old (congrArg vB ?_) (.refl _); simp [capital]; omega)
theorem digit_is (c : Int) : Is Tryz.prog 118 [vI .u8 c] (vB (digit c)) := by
  refine Is.of TP Tryz.func118 rfl rfl (Nat.le_of_ble_eq_true rfl) fun st => Pw.of TP [] ?_
  conv => whnf
  repeat' (first | (refine ⟨fun h => ?_, fun h => ?_⟩ <;> conv => whnf) | fail)
  all_goals (refine Fin.old (congrArg vB ?_) (.refl _); simp [digit]; omega)
/-- the bytes of a word; of a key -/
def wordc (c : Int) : Bool := small c || digit c || decide (c = 95)
def keyc (c : Int) : Bool := capital c || decide (c = 95)
def gluec (c : Int) : Bool := small c || capital c || digit c || decide (c = 95) || decide (c = 36)
theorem one1_is (c : Int) : Is Tryz.prog 117 [vI .u8 c] (vB (wordc c)) := by
  refine Is.of TP Tryz.func117 rfl rfl (Nat.le_of_ble_eq_true rfl) fun st => Pw.of TP [] ?_
  conv => whnf
  repeat' (first | (refine ⟨fun h => ?_, fun h => ?_⟩ <;> conv => whnf) | (refine Is.callB (small_is _) fun b hb => ?_; cases b <;> conv => whnf) | (refine Is.callB (digit_is _) fun b hb => ?_; cases b <;> conv => whnf) | fail)
  all_goals (refine Fin.old (congrArg vB ?_) (.refl _); simp [wordc, *])
theorem one2_is (c : Int) : Is Tryz.prog 121 [vI .u8 c] (vB (keyc c)) := by
  refine Is.of TP Tryz.func121 rfl rfl (Nat.le_of_ble_eq_true rfl) fun st => Pw.of TP [] ?_
  conv => whnf
  repeat' (first | (refine ⟨fun h => ?_, fun h => ?_⟩ <;> conv => whnf) | (refine Is.callB (capital_is _) fun b hb => ?_; cases b <;> conv => whnf) | fail)
  all_goals (refine Fin.old (congrArg vB ?_) (.refl _); simp [keyc, *])
theorem glued_is (c : Int) : Is Tryz.prog 129 [vI .u8 c] (vB (gluec c)) := by
  refine Is.of TP Tryz.func129 rfl rfl (Nat.le_of_ble_eq_true rfl) fun st => Pw.of TP [] ?_
  conv => whnf
  repeat' (first | (refine ⟨fun h => ?_, fun h => ?_⟩ <;> conv => whnf) | (refine Is.callB (small_is _) fun b hb => ?_; cases b <;> conv => whnf) | (refine Is.callB (capital_is _) fun b hb => ?_; cases b <;> conv => whnf) | (refine Is.callB (digit_is _) fun b hb => ?_; cases b <;> conv => whnf) | fail)
  all_goals (refine Fin.old (congrArg vB ?_) (.refl _); simp [gluec, *])
end Go.Proofs.YtgbdhakkgnmeoaaGreat.D
namespace Go.Proofs.YtgbdhakkgnmeoaaGreat.D
set_option linter.unusedVariables false
set_option linter.unusedSimpArgs false
open Go Go.Proofs.YtgbdhakkgnmeoaaGreat.D.Pm
def run (p : Int → Bool) (s : ByteArray) : Nat → Nat → Nat
  | _, 0 => 0
  | k, m + 1 => if k < s.size then (if p (by_ s k) = true then run p s (k + 1) m + 1 else 0) else 0
theorem run_no {p : Int → Bool} {s : ByteArray} {k m : Nat} (h : ¬ k < s.size) : run p s k m = 0 := by cases m <;> simp [run, h]
theorem run_np {p : Int → Bool} {s : ByteArray} {k m : Nat} (h : p (by_ s k) = false) : run p s k m = 0 := by cases m <;> simp [run, h]
theorem while_is (p : Int → Bool) (f : Nat) (hf : ∀ c, Is Tryz.prog f [vI .u8 c] (vB (p c))) (s : ByteArray) (hs : s.size ≤ Big) (k m : Nat) (hk : k ≤ Big) (hm : m ≤ Big) :
    Is Tryz.prog 116 [vS s, vI .i64 k, vI .i64 m, .c (.fn f [])] (vI .i64 (run p s k m : Nat)) := by
  refine Is.of TP Tryz.func116 rfl rfl (Nat.le_of_ble_eq_true rfl) fun st => Pw.of TP [] ?_
  conv => whnf
  refine Pw.rng (τ := Unit) 9 m hm [0, 1, 2, 3] (fun _ => []) (fun i _ => run p s k m = i + run p s (k + i) (m - i)) () rfl trivial (by simp) fun i x hi hx => Pw.of TP [] ?_
  conv => whnf
  have e1 : IntKind.i64.wrap ((k : Int) + (i : Int)) = ((k + i : Nat) : Int) := by rw [wrap_id] <;> simp [Big] at * <;> omega
  rw [e1]
  repeat' (first | (refine ⟨fun h => ?_, fun h => ?_⟩ <;> conv => whnf) | fail)
  · rw [e1]
    refine ⟨by omega, by omega, ?_⟩
    conv => whnf
    refine Is.callB (hf _) fun b hb => ?_
    have hlt : i < m := by omega
    obtain ⟨d, hd⟩ : ∃ d, m - i = d + 1 := ⟨m - i - 1, by omega⟩
    cases b <;> conv => whnf
    · refine Fin.old (congrArg (vI .i64) ?_) (.refl _)
      rw [hd, run_np hb] at hx
      rw [hx]; rfl
    · refine ⟨hlt, rfl, ⟨rfl, rfl, rfl, rfl, trivial⟩, (), trivial, .refl _, ?_⟩
      rw [hx, hd, run, if_pos (by omega), if_pos hb, show m - (i + 1) = d by omega, show k + (i + 1) = k + i + 1 by omega]
      omega
  · refine Fin.old (congrArg (vI .i64) ?_) (.refl _)
    rw [hx, show m - i = 0 by omega]; rfl
  · refine Fin.old (congrArg (vI .i64) ?_) (.refl _)
    rw [hx, run_no (by omega)]; rfl
end Go.Proofs.YtgbdhakkgnmeoaaGreat.D
namespace Go.Proofs.YtgbdhakkgnmeoaaGreat.D
set_option linter.unusedVariables false
set_option linter.unusedSimpArgs false
open Go Go.Proofs.YtgbdhakkgnmeoaaGreat.D.Pm
def strC (x : ByteArray) : List AC := [.v (.string x)]
def eS (l : List ByteArray) : AC := .sl 1 (l.map strC)
def hasPre (s t : ByteArray) : Bool := decide (t.size ≤ s.size ∧ s.extract 0 t.size = t)
theorem hasPre0_is (s t : ByteArray) (hs : s.size ≤ Big) : Is Tryz.prog 136 [vS s, vS t] (vB (hasPre s t)) := by
  refine Is.of TP Tryz.func136 rfl rfl (Nat.le_of_ble_eq_true rfl) fun st => Pw.of TP [] ?_
  conv => whnf
  repeat' (first | (refine ⟨fun h => ?_, fun h => ?_⟩ <;> conv => whnf) | fail)
  · refine ⟨by simp, by simp, by omega, ?_⟩
    conv => whnf
    repeat' (first | (refine ⟨fun h => ?_, fun h => ?_⟩ <;> conv => whnf) | fail)
    · (refine Fin.old (congrArg vB ?_) (.refl _); simp at *; simp [hasPre, *])
    · (refine Fin.old (congrArg vB ?_) (.refl _); simp at *; simp [hasPre, *])
  · (refine Fin.old (congrArg vB ?_) (.refl _); simp at *; simp [hasPre]; omega)
theorem hasPre_is (s t : ByteArray) (hs : s.size ≤ Big) : Is Tryz.prog 130 [vS s, vS t] (vB (hasPre s t)) := by
  refine Is.of TP Tryz.func130 rfl rfl (Nat.le_of_ble_eq_true rfl) fun st => Pw.of TP [] ?_
  conv => whnf
  refine Is.callB (hasPre0_is _ _ hs) fun b hb => ?_
  conv => whnf
  (refine Fin.old (congrArg vB ?_) (.refl _); simp [hb])
def signs1 : List ByteArray := [⟨#[60, 62]⟩, ⟨#[60, 61]⟩, ⟨#[62, 61]⟩, ⟨#[124, 124]⟩]
def signs2 : List ByteArray := [⟨#[40]⟩, ⟨#[41]⟩, ⟨#[44]⟩, ⟨#[61]⟩, ⟨#[60]⟩, ⟨#[62]⟩, ⟨#[43]⟩, ⟨#[45]⟩, ⟨#[42]⟩, ⟨#[47]⟩, ⟨#[37]⟩]
def signOf (s : ByteArray) : Nat := ((signs1 ++ signs2).find? (hasPre s)).elim 0 ByteArray.size
theorem find_at {α : Type} {p : α → Bool} : ∀ {l : List α} {j : Nat} (h : j < l.length), (∀ x ∈ l.take j, p x = false) → p l[j] = true → l.find? p = some l[j]
  | a :: l, 0, h, hn, hp => by simp at hp; simp [List.find?, hp]
  | a :: l, j + 1, h, hn, hp => by
    have ha : p a = false := hn a (by simp)
    simp only [List.find?, ha]
    simpa using find_at (l := l) (j := j) (by simpa using h) (fun x hx => hn x (by simp [hx])) (by simpa using hp)
theorem find_no {α : Type} {p : α → Bool} {l : List α} (h : ∀ x ∈ l, p x = false) : l.find? p = none := by
  rw [List.find?_eq_none]; intro x hx; simp [h x hx]
theorem sign_is (s : ByteArray) (hs : s.size ≤ Big) : Is Tryz.prog 123 [vS s] (vI .i64 (signOf s)) := by
  refine Is.of TP Tryz.func123 rfl rfl (Nat.le_of_ble_eq_true rfl) fun st => Pw.of TP [] ?_
  conv => whnf
  refine Pw.rng (τ := Unit) 11 2 (by decide) [0, 3, 10] (fun _ => []) (fun i _ => (0 < i → ∀ x ∈ signs1, hasPre s x = false) ∧ (1 < i → ∀ x ∈ signs2, hasPre s x = false)) () rfl trivial ⟨by simp, by simp⟩ fun i _ hi hx => Pw.of TP [] ?_
  conv => whnf
  repeat' (first | (refine ⟨fun h => ?_, fun h => ?_⟩ <;> conv => whnf) | fail)
  · obtain ⟨L, hL, hLL⟩ : ∃ L, ldc tt.get 24 (([.sl 1 (signs1.map strC), .sl 1 (signs2.map strC)] : List AC).drop ((i : Int).toNat * 1)) = some (.c (.sl 1 (L.map strC))) ∧ (i = 0 ∧ L = signs1 ∨ i = 1 ∧ L = signs2) := by
      obtain rfl | rfl : i = 0 ∨ i = 1 := by omega
      · exact ⟨signs1, rfl, .inl ⟨rfl, rfl⟩⟩
      · exact ⟨signs2, rfl, .inr ⟨rfl, rfl⟩⟩
    have hLn : L.length ≤ Big := by rcases hLL with ⟨_, rfl⟩ | ⟨_, rfl⟩ <;> decide
    refine ⟨by omega, by omega, onO_mk hL ?_⟩
    conv => whnf
    refine Pw.rng (τ := Unit) 16 L.length hLn [0, 3, 10, 11, 14, 15] (fun _ => []) (fun j _ => ∀ x ∈ L.take j, hasPre s x = false) () rfl trivial (by simp) fun j _ hj hy => Pw.of TP [] ?_
    conv => whnf
    repeat' (first | (refine ⟨fun h => ?_, fun h => ?_⟩ <;> conv => whnf) | fail)
    · have hj' := lt_map ‹_›
      refine ixm hj' ?_
      conv => whnf
      refine Is.callB (hasPre_is _ _ hs) fun b hb => ?_
      cases b <;> conv => whnf
      · refine ⟨hj', rfl, ⟨rfl, rfl, rfl, rfl, rfl, rfl, trivial⟩, (), trivial, .refl _, fun x hx => ?_⟩
        rw [List.take_add_one, List.getElem?_eq_getElem hj'] at hx
        rcases List.mem_append.1 hx with hx | hx
        · exact hy x hx
        · simp at hx; rw [hx]; exact hb
      · refine Fin.old (congrArg (vI .i64) ?_) (.refl _)
        have hf := find_at hj' hy hb
        rcases hLL with ⟨rfl, rfl⟩ | ⟨rfl, rfl⟩
        · simp only [signOf, List.find?_append, hf]; rfl
        · simp only [signOf, List.find?_append, find_no (hx.1 (by omega)), hf]; rfl
    · have hj' := nlt_map ‹_› hj
      subst hj'
      refine ⟨by omega, rfl, ⟨rfl, rfl, rfl, trivial⟩, (), trivial, .refl _, fun h0 => ?_, fun h1 => ?_⟩
      · rcases hLL with ⟨rfl, rfl⟩ | ⟨rfl, rfl⟩
        · simpa using hy
        · exact hx.1 (by omega)
      · rcases hLL with ⟨rfl, rfl⟩ | ⟨rfl, rfl⟩
        · omega
        · simpa using hy
  · obtain rfl : i = 2 := by omega
    refine Fin.old (congrArg (vI .i64) ?_) (.refl _)
    simp only [signOf, List.find?_append, find_no (hx.1 (by omega)), find_no (hx.2 (by omega))]; rfl
theorem alone_is (s : ByteArray) (hs : s.size ≤ Big) (n : Nat) : Is Tryz.prog 119 [vS s, vI .i64 n] (vI .i64 (if n < s.size ∧ gluec (by_ s n) = true then 0 else n : Nat)) := by
  refine Is.of TP Tryz.func119 rfl rfl (Nat.le_of_ble_eq_true rfl) fun st => Pw.of TP [] ?_
  conv => whnf
  repeat' (first | (refine ⟨fun h => ?_, fun h => ?_⟩ <;> conv => whnf) | fail)
  · refine ⟨by omega, by omega, ?_⟩
    conv => whnf
    repeat' (first | (refine ⟨fun h => ?_, fun h => ?_⟩ <;> conv => whnf) | (refine Is.callB (glued_is _) fun b hb => ?_; cases b <;> conv => whnf) | fail)
    · exact Fin.old (congrArg (vI .i64) (by simp at *; simp [*])) (.refl _)
    · exact Fin.old (congrArg (vI .i64) (by simp at *; simp [*])) (.refl _)
  · exact Fin.old (congrArg (vI .i64) (by simp at *; rw [if_neg (by omega)])) (.refl _)
end Go.Proofs.YtgbdhakkgnmeoaaGreat.D
namespace Go.Proofs.YtgbdhakkgnmeoaaGreat.D
set_option linter.unusedVariables false
set_option linter.unusedSimpArgs false
open Go Go.Proofs.YtgbdhakkgnmeoaaGreat.D.Pm
def quo (s : ByteArray) : Nat → Nat → Nat
  | 0, _ => 0
  | f + 1, i => if i < s.size then (if by_ s i < 32 then 0 else if 126 < by_ s i then 0 else if by_ s i = 39 then (if i + 1 < s.size then (if by_ s (i + 1 : Nat) = 39 then quo s f (i + 2) else i + 1) else i + 1) else quo s f (i + 1)) else 0
def quoted (s : ByteArray) : Nat := quo s s.size 1
theorem quoted_is (s : ByteArray) (hs : s.size < Big) : Is Tryz.prog 122 [vS s] (vI .i64 (quoted s)) := by
  refine Is.of TP Tryz.func122 rfl rfl (Nat.le_of_ble_eq_true rfl) fun st => Pw.of TP [] ?_
  conv => whnf
  refine Pw.lp (σ := Nat × Nat) [0] (fun x => [(3, vI .i64 x.2)]) (fun x => quoted s = quo s x.1 x.2 ∧ s.size ≤ x.2 + x.1 ∧ x.2 ≤ s.size + 2) (fun x => x.1) (s.size, 1) ⟨rfl, trivial⟩ ⟨rfl, by omega, by omega⟩ fun x hx => Pw.of TP [] ?_
  obtain ⟨f, i⟩ := x
  obtain ⟨h1, h2, h3⟩ := hx
  simp only at h1 h2 h3 ⊢
  conv => whnf
  have w1 : IntKind.i64.wrap ((i : Int) + 1) = ((i + 1 : Nat) : Int) := by rw [wrap_id] <;> simp [Big] at * <;> omega
  have w2 : IntKind.i64.wrap (((i + 1 : Nat) : Int) + 1) = ((i + 1 + 1 : Nat) : Int) := by rw [wrap_id] <;> simp [Big] at * <;> omega
  repeat' (first | (refine ⟨fun h => ?_, fun h => ?_⟩ <;> conv => whnf) | fail)
  · have hi : i < s.size := by omega
    obtain ⟨f, rfl⟩ : ∃ g, f = g + 1 := ⟨f - 1, by omega⟩
    refine ⟨by omega, by omega, ?_⟩
    rw [quo, if_pos hi] at h1
    conv => whnf
    repeat' (first | (refine ⟨fun h => ?_, fun h => ?_⟩ <;> conv => whnf) | fail)
    · refine Fin.old (congrArg (vI .i64) ?_) (.refl _)
      rw [h1, if_pos ‹_›]; rfl
    · refine ⟨by omega, by omega, ?_⟩
      rw [if_neg ‹_›] at h1
      conv => whnf
      repeat' (first | (refine ⟨fun h => ?_, fun h => ?_⟩ <;> conv => whnf) | fail)
      · refine Fin.old (congrArg (vI .i64) ?_) (.refl _)
        rw [h1, if_pos ‹_›]; rfl
      · refine ⟨by omega, by omega, ?_⟩
        rw [if_neg ‹_›] at h1
        conv => whnf
        repeat' (first | (refine ⟨fun h => ?_, fun h => ?_⟩ <;> conv => whnf) | fail)
        · rw [if_neg ‹_›] at h1
          refine ⟨⟨rfl, trivial⟩, (f, i + 1), ⟨congrArg (fun n => some (vI .i64 n)) w1, trivial⟩, .refl _, ⟨h1, by simp only; omega, by simp only; omega⟩, by simp⟩
        · have h39 : by_ s i = 39 := Classical.not_not.1 ‹_›
          rw [if_pos h39] at h1
          refine ⟨by omega, by omega, ?_⟩
          rw [if_pos (by omega)] at h1
          conv => whnf
          rw [w1]
          repeat' (first | (refine ⟨fun h => ?_, fun h => ?_⟩ <;> conv => whnf) | fail)
          · rw [if_pos ‹_›] at h1
            refine ⟨⟨rfl, trivial⟩, (f, i + 2), ⟨congrArg (fun n => some (vI .i64 n)) (by rw [w1, w2]), trivial⟩, .refl _, ⟨h1, by simp only; omega, by simp only; omega⟩, by simp⟩
          · rw [if_neg ‹_›] at h1
            refine Fin.old (congrArg (vI .i64) ?_) (.refl _)
            rw [h1, w1]
        · have h39 : by_ s i = 39 := Classical.not_not.1 ‹_›
          rw [if_pos h39, if_neg (by omega)] at h1
          refine Fin.old (congrArg (vI .i64) ?_) (.refl _)
          rw [h1, w1]
  · refine Fin.old (congrArg (vI .i64) ?_) (.refl _)
    rw [h1]
    cases f with
    | zero => rfl
    | succ f => rw [quo, if_neg (by omega)]; rfl
end Go.Proofs.YtgbdhakkgnmeoaaGreat.D
namespace Go.Proofs.YtgbdhakkgnmeoaaGreat.D
set_option linter.unusedVariables false
set_option linter.unusedSimpArgs false
open Go Go.Proofs.YtgbdhakkgnmeoaaGreat.D.Pm
def alone (s : ByteArray) (n : Nat) : Nat := if n < s.size ∧ gluec (by_ s n) = true then 0 else n
def one (s : ByteArray) : Nat × Nat :=
  if small (by_ s 0) = true then (1, alone s (run wordc s 0 12))
  else if capital (by_ s 0) = true then (2, alone s (run keyc s 0 16))
  else if by_ s 0 = 48 then (3, alone s 1)
  else if digit (by_ s 0) = true then (3, alone s (run digit s 0 19))
  else if by_ s 0 = 39 then (4, quoted s)
  else if by_ s 0 = 36 then (if s.size < 2 then (5, 0) else if by_ s 1 < 49 then (5, 0) else if 54 < by_ s 1 then (5, 0) else (5, alone s 2))
  else (6, signOf s)
theorem oneE {s : ByteArray} {a b : Nat} (e : one s = (a, b)) : tupl [vI .i64 a, vI .i64 b] = .t [vI .i64 (one s).1, vI .i64 (one s).2] := by rw [e]; rfl
theorem one_is (s : ByteArray) (hs : s.size < Big) (h0 : 0 < s.size) : Is Tryz.prog 103 [vS s] (.t [vI .i64 (one s).1, vI .i64 (one s).2]) := by
  have hb : s.size ≤ Big := Nat.le_of_lt hs
  refine Is.of TP Tryz.func103 rfl rfl (Nat.le_of_ble_eq_true rfl) fun st => Pw.of TP [] ?_
  conv => whnf
  refine ⟨by omega, by omega, ?_⟩
  conv => whnf
  refine Is.callB (small_is _) fun b h1 => ?_
  cases b <;> conv => whnf
  · refine Is.callB (capital_is _) fun b h2 => ?_
    cases b <;> conv => whnf
    · repeat' (first | (refine ⟨fun h => ?_, fun h => ?_⟩ <;> conv => whnf) | fail)
      · refine (alone_is s hb 1).call ?_
        conv => whnf
        exact Fin.old (oneE (by unfold one; rw [if_neg (by simp [h1]), if_neg (by simp [h2]), if_pos ‹_›] <;> rfl)) (.refl _)
      · refine Is.callB (digit_is _) fun b h4 => ?_
        cases b <;> conv => whnf
        · repeat' (first | (refine ⟨fun h => ?_, fun h => ?_⟩ <;> conv => whnf) | fail)
          · refine (quoted_is s hs).call ?_
            conv => whnf
            exact Fin.old (oneE (by unfold one; rw [if_neg (by simp [h1]), if_neg (by simp [h2]), if_neg ‹_›, if_neg (by simp [h4]), if_pos ‹_›] <;> rfl)) (.refl _)
          · exact Fin.old (oneE (by unfold one; rw [if_neg (by simp [h1]), if_neg (by simp [h2]), if_neg ‹_›, if_neg (by simp [h4]), if_neg ‹_›, if_pos ‹_›, if_pos (by omega)] <;> rfl)) (.refl _)
          · refine ⟨by omega, by omega, ?_⟩
            conv => whnf
            repeat' (first | (refine ⟨fun h => ?_, fun h => ?_⟩ <;> conv => whnf) | fail)
            · exact Fin.old (oneE (by unfold one; rw [if_neg (by simp [h1]), if_neg (by simp [h2]), if_neg ‹_›, if_neg (by simp [h4]), if_neg ‹_›, if_pos ‹_›, if_neg (by omega), if_pos ‹_›] <;> rfl)) (.refl _)
            · refine ⟨by omega, by omega, ?_⟩
              conv => whnf
              repeat' (first | (refine ⟨fun h => ?_, fun h => ?_⟩ <;> conv => whnf) | fail)
              · exact Fin.old (oneE (by unfold one; rw [if_neg (by simp [h1]), if_neg (by simp [h2]), if_neg ‹_›, if_neg (by simp [h4]), if_neg ‹_›, if_pos ‹_›, if_neg (by omega), if_neg ‹_›, if_pos ‹_›] <;> rfl)) (.refl _)
              · refine (alone_is s hb 2).call ?_
                conv => whnf
                exact Fin.old (oneE (by unfold one; rw [if_neg (by simp [h1]), if_neg (by simp [h2]), if_neg ‹_›, if_neg (by simp [h4]), if_neg ‹_›, if_pos ‹_›, if_neg (by omega), if_neg ‹_›, if_neg ‹_›] <;> rfl)) (.refl _)
          · refine (sign_is s hb).call ?_
            conv => whnf
            exact Fin.old (oneE (by unfold one; rw [if_neg (by simp [h1]), if_neg (by simp [h2]), if_neg ‹_›, if_neg (by simp [h4]), if_neg ‹_›, if_neg ‹_›] <;> rfl)) (.refl _)
        · refine (while_is digit _ digit_is s hb 0 19 (by decide) (by decide)).call ?_
          conv => whnf
          refine (alone_is s hb _).call ?_
          conv => whnf
          exact Fin.old (oneE (by unfold one; rw [if_neg (by simp [h1]), if_neg (by simp [h2]), if_neg ‹_›, if_pos h4] <;> rfl)) (.refl _)
    · refine (while_is keyc _ one2_is s hb 0 16 (by decide) (by decide)).call ?_
      conv => whnf
      refine (alone_is s hb _).call ?_
      conv => whnf
      exact Fin.old (oneE (by unfold one; rw [if_neg (by simp [h1]), if_pos h2] <;> rfl)) (.refl _)
  · refine (while_is wordc _ one1_is s hb 0 12 (by decide) (by decide)).call ?_
    conv => whnf
    refine (alone_is s hb _).call ?_
    conv => whnf
    exact Fin.old (oneE (by unfold one; rw [if_pos h1] <;> rfl)) (.refl _)
/-! ### names -/
def eTok (k at_ : Int) (s : ByteArray) : List AC := [.v (.int .i64 k), .v (.string s), .v (.int .i64 at_)]
def right (k at_ : Int) (s : ByteArray) : Bool :=
  if at_ < 0 then false else if s = ⟨#[]⟩ then decide (k = 7) else decide ((one s).2 = s.size ∧ ((one s).1 : Int) = k)
theorem right_is (k at_ : Int) (s : ByteArray) (hs : s.size < Big) : Is Tryz.prog 80 [.g (eTok k at_ s)] (vB (right k at_ s)) := by
  refine Is.of TP Tryz.func80 rfl rfl (Nat.le_of_ble_eq_true rfl) fun st => Pw.of TP [] ?_
  conv => whnf
  repeat' (first | (refine ⟨fun h => ?_, fun h => ?_⟩ <;> conv => whnf) | fail)
  · exact Fin.old (congrArg vB (by unfold right; rw [if_pos ‹_›])) (.refl _)
  · exact Fin.old (congrArg vB (by unfold right; rw [if_neg (by omega), if_pos ‹_›]; simp [*])) (.refl _)
  · exact Fin.old (congrArg vB (by unfold right; rw [if_neg (by omega), if_pos ‹_›]; simp [*])) (.refl _)
  · have h0 : 0 < s.size := by
      rcases Nat.eq_zero_or_pos s.size with h0 | h0
      · have e : s = ByteArray.empty := by simpa using h0
        exact absurd e ‹_›
      · exact h0
    refine (one_is s hs h0).call ?_
    conv => whnf
    repeat' (first | (refine ⟨fun h => ?_, fun h => ?_⟩ <;> conv => whnf) | fail)
    · exact Fin.old (congrArg vB (by unfold right; rw [if_neg (by omega), if_neg ‹_›]; exact (decide_eq_true ⟨by omega, by omega⟩).symm)) (.refl _)
    · exact Fin.old (congrArg vB (by unfold right; rw [if_neg (by omega), if_neg ‹_›]; exact (decide_eq_false (fun h => by omega)).symm)) (.refl _)
    · exact Fin.old (congrArg vB (by unfold right; rw [if_neg (by omega), if_neg ‹_›]; exact (decide_eq_false (fun h => by omega)).symm)) (.refl _)
def isName (s : ByteArray) : Bool := right 1 0 s
theorem isName_is (s : ByteArray) (hs : s.size < Big) : Is Tryz.prog 57 [vS s] (vB (isName s)) := by
  refine Is.of TP Tryz.func57 rfl rfl (Nat.le_of_ble_eq_true rfl) fun st => Pw.of TP [] ?_
  conv => whnf
  refine Is.callB (right_is 1 0 s hs) fun b hb => ?_
  conv => whnf
  exact Fin.old (congrArg vB hb.symm) (.refl _)
end Go.Proofs.YtgbdhakkgnmeoaaGreat.D
namespace Go.Proofs.YtgbdhakkgnmeoaaGreat.D
set_option linter.unusedVariables false
set_option linter.unusedSimpArgs false
open Go Go.Proofs.YtgbdhakkgnmeoaaGreat.D.Pm
def anyTo (s : ByteArray) (c : Int) : Nat → Bool
  | 0 => false
  | n + 1 => anyTo s c n || decide (by_ s n = c)
def memB (s : ByteArray) (c : Int) : Bool := anyTo s c s.size
def allN (s : ByteArray) (p : Int → Bool) : Nat → Nat → Bool
  | _, 0 => true
  | k, n + 1 => p (by_ s k) && allN s p (k + 1) n
def allB (s : ByteArray) (k : Nat) (p : Int → Bool) : Bool := allN s p k (s.size - k)
theorem allB_end {s : ByteArray} {k : Nat} {p : Int → Bool} (h : ¬ k < s.size) : allB s k p = true := by
  unfold allB; rw [show s.size - k = 0 by omega]; rfl
theorem allB_on {s : ByteArray} {k : Nat} {p : Int → Bool} (h : k < s.size) : allB s k p = (p (by_ s k) && allB s (k + 1) p) := by
  unfold allB; rw [show s.size - k = (s.size - (k + 1)) + 1 by omega]; rfl
def plainc (c : Int) : Bool := decide (32 ≤ c ∧ c ≤ 126)
def plain (s : ByteArray) : Bool := allB s 0 plainc
theorem plain_is (s : ByteArray) (hs : s.size ≤ Big) : Is Tryz.prog 125 [vS s] (vB (plain s)) := by
  refine Is.of TP Tryz.func125 rfl rfl (Nat.le_of_ble_eq_true rfl) fun st => Pw.of TP [] ?_
  conv => whnf
  refine Pw.rng (τ := Unit) 6 s.size hs [0, 5] (fun _ => []) (fun i _ => plain s = allB s i plainc) () rfl trivial rfl fun i _ hi hx => Pw.of TP [] ?_
  conv => whnf
  repeat' (first | (refine ⟨fun h => ?_, fun h => ?_⟩ <;> conv => whnf) | fail)
  · have hi' : i < s.size := by omega
    rw [allB_on hi'] at hx
    refine ⟨by omega, by omega, ?_⟩
    conv => whnf
    repeat' (first | (refine ⟨fun h => ?_, fun h => ?_⟩ <;> conv => whnf) | fail)
    · (refine Fin.old (congrArg vB ?_) (.refl _); rw [hx]; simp [plainc]; omega)
    · refine ⟨by omega, by omega, ?_⟩
      conv => whnf
      repeat' (first | (refine ⟨fun h => ?_, fun h => ?_⟩ <;> conv => whnf) | fail)
      · (refine Fin.old (congrArg vB ?_) (.refl _); rw [hx]; simp [plainc]; omega)
      · exact ⟨hi', rfl, ⟨rfl, rfl, trivial⟩, (), trivial, .refl _, by rw [hx]; simp [plainc]; omega⟩
  · (refine Fin.old (congrArg vB ?_) (.refl _); rw [hx, allB_end (by omega)])
end Go.Proofs.YtgbdhakkgnmeoaaGreat.D
namespace Go.Proofs.YtgbdhakkgnmeoaaGreat.D
set_option linter.unusedVariables false
set_option linter.unusedSimpArgs false
open Go Go.Proofs.YtgbdhakkgnmeoaaGreat.D.Pm
set_option maxRecDepth 4000
def smalls : ByteArray := ⟨#[97, 98, 99, 100, 101, 102, 103, 104, 105, 106, 107, 108, 109, 110, 111, 112, 113, 114, 115, 116, 117, 118, 119, 120, 121, 122]⟩
def wordS : ByteArray := ⟨#[97, 98, 99, 100, 101, 102, 103, 104, 105, 106, 107, 108, 109, 110, 111, 112, 113, 114, 115, 116, 117, 118, 119, 120, 121, 122, 48, 49, 50, 51, 52, 53, 54, 55, 56, 57, 95]⟩
def capitals : ByteArray := ⟨#[65, 66, 67, 68, 69, 70, 71, 72, 73, 74, 75, 76, 77, 78, 79, 80, 81, 82, 83, 84, 85, 86, 87, 88, 89, 90]⟩
def keyS : ByteArray := ⟨#[65, 66, 67, 68, 69, 70, 71, 72, 73, 74, 75, 76, 77, 78, 79, 80, 81, 82, 83, 84, 85, 86, 87, 88, 89, 90, 95]⟩
def digitS : ByteArray := ⟨#[48, 49, 50, 51, 52, 53, 54, 55, 56, 57]⟩
def rsigns : List ByteArray := [⟨#[40]⟩, ⟨#[41]⟩, ⟨#[44]⟩, ⟨#[61]⟩, ⟨#[60, 62]⟩, ⟨#[60]⟩, ⟨#[60, 61]⟩, ⟨#[62]⟩, ⟨#[62, 61]⟩, ⟨#[43]⟩, ⟨#[45]⟩, ⟨#[42]⟩, ⟨#[47]⟩, ⟨#[37]⟩, ⟨#[124, 124]⟩]
def rsign (s : ByteArray) : Bool := rsigns.any fun t => decide (s = t)
def rqL (s : ByteArray) : Nat → Nat → Nat → Bool
  | 0, _, n => decide (n % 2 = 0)
  | f + 1, k, n => if by_ s k = 39 then rqL s f (k + 1) (n + 1) else if n % 2 = 1 then false else rqL s f (k + 1) n
def rquoted (s : ByteArray) : Bool := if s.size < 2 then false else if by_ s 0 = 39 then (if by_ s (s.size - 1 : Nat) = 39 then (if plain s = true then rqL s (s.size - 2) 1 0 else false) else false) else false
end Go.Proofs.YtgbdhakkgnmeoaaGreat.D
namespace Go.Proofs.YtgbdhakkgnmeoaaGreat.D
set_option linter.unusedVariables false
set_option linter.unusedSimpArgs false
open Go Go.Proofs.YtgbdhakkgnmeoaaGreat.D.Pm
set_option maxRecDepth 4000
def kw1 (s : ByteArray) : Bool := decide (s.size ≤ 12) && (allB (s.extract 0 1) 0 (memB smalls) && allB s 1 (memB wordS))
def kw2 (s : ByteArray) : Bool := decide (s.size ≤ 16) && (allB (s.extract 0 1) 0 (memB capitals) && allB s 1 (memB keyS))
def kw3 (s : ByteArray) : Bool := decide (s.size ≤ 19) && (allB s 0 (memB digitS) && (decide (s = ⟨#[48]⟩) || !decide (by_ s 0 = 48)))
def kw5 (s : ByteArray) : Bool := decide (s.size = 2) && (decide (by_ s 0 = 36) && (decide (49 ≤ by_ s 1) && decide (by_ s 1 ≤ 54)))
def rkind (s : ByteArray) : Nat := if s = ⟨#[]⟩ then 7 else if kw1 s = true then 1 else if kw2 s = true then 2 else if kw3 s = true then 3 else if rquoted s = true then 4 else if kw5 s = true then 5 else if rsign s = true then 6 else 0
theorem size_ext (s : ByteArray) (hs : s.size ≤ Big) (a b : Nat) : (s.extract a b).size ≤ Big := by
  rw [ByteArray.size_extract]; omega
end Go.Proofs.YtgbdhakkgnmeoaaGreat.D
namespace Go.Proofs.YtgbdhakkgnmeoaaGreat.D
set_option linter.unusedVariables false
set_option linter.unusedSimpArgs false
open Go Go.Proofs.YtgbdhakkgnmeoaaGreat.D.Pm
set_option maxRecDepth 4000
structure Val where
  k : Int
  n : Int
  s : ByteArray
inductive Ex where
  | mk (k op : Int) (v : Val) (name : ByteArray) (kids : List Ex)
def eV (v : Val) : List AC := [.v (.int .i64 v.k), .v (.int .i64 v.n), .v (.string v.s)]
mutual
def eE : Ex → List AC
  | .mk k op v name kids => [.v (.int .i64 k), .v (.int .i64 op), .v (.int .i64 v.k), .v (.int .i64 v.n), .v (.string v.s), .v (.string name), .sl 7 (eEs kids)]
def eEs : List Ex → List (List AC)
  | [] => []
  | e :: l => eE e :: eEs l
end
theorem eEs_map : ∀ l, eEs l = l.map eE
  | [] => rfl
  | e :: l => by rw [eEs, eEs_map l]; rfl
def vright (v : Val) : Bool :=
  if v.k = 0 then decide (v.n = 0 ∧ v.s = ⟨#[]⟩)
  else if v.k = 1 then decide (v.s = ⟨#[]⟩)
  else if v.k = 2 then decide (v.s = ⟨#[]⟩ ∧ (v.n = 0 ∨ v.n = 1))
  else if v.k = 3 then decide (v.n = 0 ∧ v.s.size ≤ 32) && plain v.s
  else false
theorem vright_is (v : Val) (hs : v.s.size ≤ Big) : Is Tryz.prog 109 [.g (eV v)] (vB (vright v)) := by
  refine Is.of TP Tryz.func109 rfl rfl (Nat.le_of_ble_eq_true rfl) fun st => Pw.of TP [] ?_
  conv => whnf
  repeat' (first | (refine ⟨fun h => ?_, fun h => ?_⟩ <;> conv => whnf) | (refine Is.callB (plain_is _ hs) fun b hb => ?_; cases b <;> conv => whnf) | fail)
  all_goals (refine Fin.old (congrArg vB ?_) (.refl _); first | (simp [vright, *]; done) | (simp [vright, *] <;> omega) | (simp_all [vright]; done))
def vright' (v : Val) : Bool := vright v
end Go.Proofs.YtgbdhakkgnmeoaaGreat.D
namespace Go.Proofs.YtgbdhakkgnmeoaaGreat.D
set_option linter.unusedVariables false
set_option linter.unusedSimpArgs false
open Go Go.Proofs.YtgbdhakkgnmeoaaGreat.D.Pm
set_option maxRecDepth 4000
mutual
theorem Ex.ind {Q : Ex → Prop} (h : ∀ k op v n kids, (∀ e ∈ kids, Q e) → Q (.mk k op v n kids)) : ∀ e, Q e
  | .mk k op v n kids => h k op v n kids (Ex.inds h kids)
theorem Ex.inds {Q : Ex → Prop} (h : ∀ k op v n kids, (∀ e ∈ kids, Q e) → Q (.mk k op v n kids)) : ∀ l : List Ex, ∀ e ∈ l, Q e
  | [] => fun e he => by cases he
  | a :: l => fun e he => (List.mem_cons.1 he).elim (fun h1 => h1 ▸ Ex.ind h a) (fun h1 => Ex.inds h l e h1)
end
mutual
def okE : Ex → Prop
  | .mk _ _ v n kids => v.s.size < Big ∧ n.size < Big ∧ kids.length ≤ Big ∧ okEs kids
def okEs : List Ex → Prop
  | [] => True
  | e :: l => okE e ∧ okEs l
end
theorem okEs_all : ∀ {l}, okEs l → ∀ e ∈ l, okE e
  | a :: l, h, e, he => by
    rcases List.mem_cons.1 he with rfl | he
    · exact h.1
    · exact okEs_all h.2 e he
mutual
def allE (p : Ex → Bool) : Ex → Bool
  | .mk k op v n kids => p (.mk k op v n kids) && allEs p kids
def allEs (p : Ex → Bool) : List Ex → Bool
  | [] => true
  | e :: l => allE p e && allEs p l
end
theorem allEs_all {p : Ex → Bool} : ∀ l, allEs p l = l.all (allE p)
  | [] => rfl
  | e :: l => by rw [allEs, List.all_cons, allEs_all l]
mutual
def height : Ex → Nat
  | .mk _ _ _ _ kids => heights kids + 1
def heights : List Ex → Nat
  | [] => 0
  | e :: l => max (height e) (heights l)
end
theorem heights_le {m : Nat} : ∀ l, heights l ≤ m ↔ ∀ e ∈ l, height e ≤ m
  | [] => by simp [heights]
  | e :: l => by simp [heights, Nat.max_le, heights_le l]
/-- the first of which it is so -/
def idx {α : Type} (p : α → Bool) (l : List α) : Int := match l.findIdx? p with | some i => i | none => -1
theorem idx_at {α : Type} {p : α → Bool} {l : List α} {i : Nat} (h : i < l.length) (hn : ∀ x ∈ l.take i, p x = false) (hp : p l[i] = true) : idx p l = i := by
  have : l.findIdx? p = some i := by
    rw [List.findIdx?_eq_some_iff_getElem]
    refine ⟨h, hp, fun j hj => ?_⟩
    have := hn l[j] (List.mem_take_iff_getElem.2 ⟨j, by omega, rfl⟩)
    simp [this]
  rw [idx, this]
theorem idx_no {α : Type} {p : α → Bool} {l : List α} (h : ∀ x ∈ l, p x = false) : idx p l = -1 := by
  rw [idx, List.findIdx?_eq_none_iff.2 (fun x hx => by simp [h x hx])]
theorem idx_any {α : Type} {p : α → Bool} {l : List α} : decide (0 ≤ idx p l) = l.any p := by
  unfold idx
  cases h : l.findIdx? p with
  | none =>
    have h1 := List.findIdx?_eq_none_iff.1 h
    have : l.any p = false := List.any_eq_false.2 fun x hx => by simp [h1 x hx]
    rw [this]
    rfl
  | some i =>
    obtain ⟨h1, h2, _⟩ := List.findIdx?_eq_some_iff_getElem.1 h
    have : l.any p = true := List.any_eq_true.2 ⟨_, List.getElem_mem h1, h2⟩
    rw [this]
    exact decide_eq_true (Int.natCast_nonneg i)
theorem take_snoc {α : Type} {Q : α → Prop} {l : List α} {i : Nat} (h : i < l.length) (hn : ∀ x ∈ l.take i, Q x) (hp : Q l[i]) : ∀ x ∈ l.take (i + 1), Q x := fun x hx => by
  rw [List.take_add_one, List.getElem?_eq_getElem h] at hx
  rcases List.mem_append.1 hx with hx | hx
  · exact hn x hx
  · simp at hx; rw [hx]; exact hp
theorem ixE {l : List Ex} {j : Nat} {F : List AC → Prop} (h : j < l.length) (k : F (eE l[j])) : 0 ≤ (j : Int) ∧ (j : Int) < ((eEs l).length : Nat) ∧ ∃ r, (eEs l)[(j : Int).toNat]? = some r ∧ F r := by
  rw [eEs_map]; exact ixm h k
theorem ltE {l : List Ex} {j : Nat} (h : (j : Int) < ((eEs l).length : Nat)) : j < l.length := by rw [eEs_map] at h; exact lt_map h
theorem nltE {l : List Ex} {j : Nat} (h : ¬ (j : Int) < ((eEs l).length : Nat)) (hj : j ≤ l.length) : j = l.length := by rw [eEs_map] at h; exact nlt_map h hj
theorem idxE_is (l : List Ex) (hl : l.length ≤ Big) (g : Nat) (caps : List AC) (p : Ex → Bool) (hf : ∀ e ∈ l, Is Tryz.prog g (.g (eE e) :: caps.map .c) (vB (p e))) :
    Is Tryz.prog 63 [.c (.sl 7 (eEs l)), .c (.fn g caps)] (vI .i64 (idx p l)) := by
  refine Is.of TP Tryz.func63 rfl rfl (Nat.le_of_ble_eq_true rfl) fun st => Pw.of TP [] ?_
  conv => whnf
  refine Pw.rng (τ := Unit) 8 l.length hl [0, 1, 7] (fun _ => []) (fun i _ => ∀ x ∈ l.take i, p x = false) () rfl trivial (by simp) fun i _ hi hx => Pw.of TP [] ?_
  conv => whnf
  repeat' (first | (refine ⟨fun h => ?_, fun h => ?_⟩ <;> conv => whnf) | fail)
  · have hi' := ltE ‹_›
    refine ixE hi' ?_
    have hm := hf l[i] (List.getElem_mem hi')
    have hs := take_snoc (Q := fun x => p x = false) hi' hx
    have ha := idx_at hi' hx
    generalize l[i] = e at hm hs ha ⊢
    cases e
    conv => whnf
    refine Is.callB hm fun b hb => ?_
    cases b <;> conv => whnf
    · exact ⟨hi', rfl, ⟨rfl, rfl, rfl, trivial⟩, (), trivial, .refl _, hs hb⟩
    · exact Fin.old (congrArg (vI .i64) (ha hb).symm) (.refl _)
  · obtain rfl := nltE ‹_› hi
    exact Fin.old (congrArg (vI .i64) (idx_no (by simpa using hx)).symm) (.refl _)
theorem anyE_is (l : List Ex) (hl : l.length ≤ Big) (g : Nat) (caps : List AC) (p : Ex → Bool) (hf : ∀ e ∈ l, Is Tryz.prog g (.g (eE e) :: caps.map .c) (vB (p e))) :
    Is Tryz.prog 43 [.c (.sl 7 (eEs l)), .c (.fn g caps)] (vB (l.any p)) := by
  refine Is.of TP Tryz.func43 rfl rfl (Nat.le_of_ble_eq_true rfl) fun st => Pw.of TP [] ?_
  conv => whnf
  refine Is.callI (idxE_is l hl g caps p hf) fun b hb => ?_
  conv => whnf
  repeat' (first | (refine ⟨fun h => ?_, fun h => ?_⟩ <;> conv => whnf) | fail)
  · (refine Fin.old (congrArg vB ?_) (.refl _); rw [← idx_any, hb]; exact (decide_eq_true ‹_›).symm)
  · (refine Fin.old (congrArg vB ?_) (.refl _); rw [← idx_any, hb]; exact (decide_eq_false ‹_›).symm)
end Go.Proofs.YtgbdhakkgnmeoaaGreat.D
namespace Go.Proofs.YtgbdhakkgnmeoaaGreat.D
set_option linter.unusedVariables false
set_option linter.unusedSimpArgs false
open Go Go.Proofs.YtgbdhakkgnmeoaaGreat.D.Pm
set_option maxRecDepth 4000
theorem low1_is (e : Ex) (m : Nat) (hm : m + 1 ≤ Big) (h : Is Tryz.prog 88 [.g (eE e), vI .i64 m] (vB (decide (height e ≤ m)))) :
    Is Tryz.prog 107 [.g (eE e), .c (.ep [.v (.int .i64 (m + 1 : Nat))])] (vB (!decide (height e ≤ m))) := by
  cases e
  refine Is.of TP Tryz.func107 rfl rfl (Nat.le_of_ble_eq_true rfl) fun st => Pw.of TP [] ?_
  conv => whnf
  have w1 : IntKind.i64.wrap (((m + 1 : Nat) : Int) - 1) = (m : Int) := by unfold Big at hm; rw [wrap_id] <;> omega
  rw [w1]
  refine Is.callB h fun b hb => ?_
  cases b <;> conv => whnf
  all_goals (refine Fin.old (congrArg vB ?_) (.refl _); rw [hb])
theorem low_is : ∀ e, okE e → ∀ m : Nat, m ≤ Big → Is Tryz.prog 88 [.g (eE e), vI .i64 m] (vB (decide (height e ≤ m))) := by
  refine Ex.ind fun k op v n kids ih ok m hm => ?_
  refine Is.of TP Tryz.func88 rfl rfl (Nat.le_of_ble_eq_true rfl) fun st => Pw.of TP [] ?_
  conv => whnf
  repeat' (first | (refine ⟨fun h => ?_, fun h => ?_⟩ <;> conv => whnf) | fail)
  · obtain ⟨m, rfl⟩ : ∃ d, m = d + 1 := ⟨m - 1, by omega⟩
    refine Is.callB (anyE_is kids ok.2.2.1 _ _ (fun e => !decide (height e ≤ m)) fun e he => low1_is e m hm (ih e he (okEs_all ok.2.2.2 e he) m (by omega))) fun b hb => ?_
    have hh : height (.mk k op v n kids) ≤ m + 1 ↔ ∀ e ∈ kids, height e ≤ m := by
      rw [← heights_le]; simp [height]
    cases b <;> conv => whnf
    · (refine Fin.old (congrArg vB ?_) (.refl _); symm; show decide _ = true; rw [decide_eq_true_iff, hh]; intro e he; simpa using List.any_eq_false.1 hb e he)
    · (refine Fin.old (congrArg vB ?_) (.refl _); symm; show decide _ = false; rw [decide_eq_false_iff_not, hh]; intro hc; obtain ⟨e, he, h1⟩ := List.any_eq_true.1 hb; simp at h1; have := hc e he; omega)
  · obtain rfl : m = 0 := by omega
    (refine Fin.old (congrArg vB ?_) (.refl _); simp [height])
def bare (op v n : Bool) : Ex → Bool
  | .mk _ o x nm _ => (op || decide (o = 0)) && ((v || decide (x.k = 0 ∧ x.n = 0 ∧ x.s = ⟨#[]⟩)) && (n || decide (nm = ⟨#[]⟩)))
theorem bare_is (e : Ex) (op v n : Bool) : Is Tryz.prog 108 [.g (eE e), vB op, vB v, vB n] (vB (bare op v n e)) := by
  cases e
  cases op <;> cases v <;> cases n <;> refine Is.of TP Tryz.func108 rfl rfl (Nat.le_of_ble_eq_true rfl) fun st => Pw.of TP [] ?_
  all_goals conv => whnf
  all_goals repeat' (first | (refine ⟨fun h => ?_, fun h => ?_⟩ <;> conv => whnf) | fail)
  all_goals (refine Fin.old (congrArg vB ?_) (.refl _); first | (simp [bare, *]; done) | (simp_all [bare]; done))
def coalesceS : ByteArray := ⟨#[99, 111, 97, 108, 101, 115, 99, 101]⟩
def lengthS : ByteArray := ⟨#[108, 101, 110, 103, 116, 104]⟩
def absS : ByteArray := ⟨#[97, 98, 115]⟩
def callOk (s : ByteArray) (n : Int) : Bool := if s = coalesceS then decide (1 ≤ n ∧ n ≤ 4) else if s = lengthS then decide (n = 1) else if s = absS then decide (n = 1) else false
theorem call_is (s : ByteArray) (n : Int) : Is Tryz.prog 110 [vS s, vI .i64 n] (vB (callOk s n)) := by
  refine Is.of TP Tryz.func110 rfl rfl (Nat.le_of_ble_eq_true rfl) fun st => Pw.of TP [] ?_
  conv => whnf
  repeat' (first | (refine ⟨fun h => ?_, fun h => ?_⟩ <;> conv => whnf) | fail)
  all_goals (refine Fin.old (congrArg vB ?_) (.refl _); unfold callOk; first | (rw [if_pos ‹_›]; simp [*]; done) | (rw [if_neg ‹_›, if_pos ‹_›]; simp [*]; done) | (rw [if_neg ‹_›, if_neg ‹_›, if_pos ‹_›]; simp [*]; done) | (rw [if_neg ‹_›, if_neg ‹_›, if_neg ‹_›]; done))
theorem eEs_len (l : List Ex) : (eEs l).length = l.length := by rw [eEs_map, List.length_map]
def rightE (slots : Bool) (e : Ex) : Bool :=
  match e with
  | .mk k op v nm kids =>
    if k = 1 then decide (kids.length = 0) && (bare false true false e && (vright v && (!decide (v.k = 1) || decide (0 ≤ v.n))))
    else if k = 2 then decide (kids.length = 0) && (bare false false true e && isName nm)
    else if k = 3 then decide (kids.length = 0) && (bare true false false e && (decide (1 ≤ op) && decide (op ≤ 6)))
    else if k = 4 then decide (kids.length = 1) && (bare true false false e && (decide (1 ≤ op) && decide (op ≤ 4)))
    else if k = 5 then decide (kids.length = 2) && (bare true false false e && (decide (1 ≤ op) && decide (op ≤ 14)))
    else if k = 6 then decide (2 ≤ kids.length) && (decide (kids.length ≤ 9) && bare false false false e)
    else if k = 7 then bare false false true e && callOk nm kids.length
    else if k = 8 then slots && (decide (kids.length = 0) && (bare true false false e && (decide (0 ≤ op) && decide (op < 6))))
    else false
set_option maxHeartbeats 1000000 in
theorem right_is2 (e : Ex) (ok : okE e) (slots : Bool) : Is Tryz.prog 91 [.g (eE e), vB slots] (vB (rightE slots e)) := by
  obtain ⟨k, op, v, nm, kids⟩ := e
  have el := eEs_len kids
  have b1 := fun x y z => bare_is (.mk k op v nm kids) x y z
  have b2 := vright_is v (Nat.le_of_lt ok.1)
  have b3 := isName_is nm ok.2.1
  have b4 := call_is nm ((eEs kids).length : Nat)
  clear ok
  cases slots <;> refine Is.of TP Tryz.func91 rfl rfl (Nat.le_of_ble_eq_true rfl) fun st => Pw.of TP [] ?_
  all_goals conv => whnf
  all_goals repeat' (first | (refine ⟨fun h => ?_, fun h => ?_⟩ <;> conv => whnf) | (refine Is.callB (b1 _ _ _) fun b hb => ?_; cases b <;> conv => whnf) | (refine Is.callB (b2) fun b hb => ?_; cases b <;> conv => whnf) | (refine Is.callB (b3) fun b hb => ?_; cases b <;> conv => whnf) | (refine Is.callB (b4) fun b hb => ?_; cases b <;> conv => whnf) | fail)
  all_goals clear b1 b2 b3 b4
  all_goals rw [el] at *
  all_goals (refine Fin.old (congrArg vB ?_) (.refl _); first | (simp [rightE, *]; done) | (simp_all [rightE]; done) | (simp [rightE, *] <;> omega) | ((simp only [rightE]; repeat' split) <;> first | (exfalso; omega) | (rw [hb]; symm; simp only [Bool.and_eq_true, decide_eq_true_eq, true_and, and_true]; omega)))
end Go.Proofs.YtgbdhakkgnmeoaaGreat.D
namespace Go.Proofs.YtgbdhakkgnmeoaaGreat.D
set_option linter.unusedVariables false
set_option linter.unusedSimpArgs false
open Go Go.Proofs.YtgbdhakkgnmeoaaGreat.D.Pm
set_option maxRecDepth 4000
theorem all_take {α : Type} {p : α → Bool} {l : List α} (h : ∀ x ∈ l, p x = true) : l.all p = true := List.all_eq_true.2 h
theorem all_at {α : Type} {p : α → Bool} {l : List α} {i : Nat} (h : i < l.length) (hp : p l[i] = false) : l.all p = false := by
  rw [List.all_eq_false]; exact ⟨_, List.getElem_mem h, by simp [hp]⟩
theorem each_is (g : Nat) (caps : List AC) (p : Ex → Bool) (hf : ∀ e, okE e → Is Tryz.prog g (.g (eE e) :: caps.map .c) (vB (p e))) :
    ∀ e, okE e → Is Tryz.prog 89 [.g (eE e), .c (.fn g caps)] (vB (allE p e)) := by
  refine Ex.ind fun k op v n kids ih ok => ?_
  refine Is.of TP Tryz.func89 rfl rfl (Nat.le_of_ble_eq_true rfl) fun st => Pw.of TP [] ?_
  conv => whnf
  have h0 := hf _ ok
  have ea : allE p (.mk k op v n kids) = (p (.mk k op v n kids) && kids.all (allE p)) := by rw [allE, allEs_all]
  rw [ea]
  refine Is.callB h0 fun b hb => ?_
  cases b <;> conv => whnf
  · (refine Fin.old (congrArg vB ?_) (.refl _); rw [hb]; rfl)
  · rw [hb, Bool.true_and]
    refine Pw.rng (τ := Unit) 14 kids.length ok.2.2.1 [1, 12, 13] (fun _ => []) (fun i _ => ∀ x ∈ kids.take i, allE p x = true) () rfl ⟨⟩ (by simp) fun i _ hi hx => Pw.of TP [] ?_
    conv => whnf
    repeat' (first | (refine ⟨fun h => ?_, fun h => ?_⟩ <;> conv => whnf) | fail)
    · have hi' := ltE ‹_›
      refine ixE hi' ?_
      have hm := ih kids[i] (List.getElem_mem hi') (okEs_all ok.2.2.2 _ (List.getElem_mem hi'))
      have hs := take_snoc (Q := fun x => allE p x = true) hi' hx
      have ha := all_at (p := allE p) hi'
      generalize kids[i] = e at hm hs ha ⊢
      cases e
      conv => whnf
      refine Is.callB hm fun b hb => ?_
      cases b <;> conv => whnf
      · (refine Fin.old (congrArg vB ?_) (.refl _); rw [ha hb])
      · exact ⟨hi', rfl, ⟨rfl, rfl, rfl, trivial⟩, (), trivial, .refl _, hs hb⟩
    · obtain rfl := nltE ‹_› hi
      (refine Fin.old (congrArg vB ?_) (.refl _); symm; exact all_take (by simpa using hx))
theorem check1_is (e : Ex) (ok : okE e) (slots : Bool) : Is Tryz.prog 90 [.g (eE e), .c (.ep [.v (.bool slots)])] (vB (rightE slots e)) := by
  have h := right_is2 e ok slots
  generalize rightE slots e = r at h
  cases e
  refine Is.of TP Tryz.func90 rfl rfl (Nat.le_of_ble_eq_true rfl) fun st => Pw.of TP [] ?_
  conv => whnf
  refine Is.callB h fun b hb => ?_
  conv => whnf
  (refine Fin.old (congrArg vB ?_) (.refl _); rw [hb])
def checkE (slots : Bool) (e : Ex) : Nat := if 8 < height e then 17 else if allE (rightE slots) e = true then 0 else 2
theorem check_is (e : Ex) (ok : okE e) (slots : Bool) : Is Tryz.prog 60 [.g (eE e), vB slots] (vI .i64 (checkE slots e : Nat)) := by
  have h1 := low_is e ok 8 (by decide)
  have h2 := each_is 90 [.ep [.v (.bool slots)]] (rightE slots) (fun e ok => check1_is e ok slots) e ok
  cases e
  refine Is.of TP Tryz.func60 rfl rfl (Nat.le_of_ble_eq_true rfl) fun st => Pw.of TP [] ?_
  conv => whnf
  refine Is.callB h1 fun b hb => ?_
  cases b <;> conv => whnf
  · exact Fin.old (congrArg (vI .i64) (by rw [checkE, if_pos (by simp at hb; exact hb)]; rfl)) (.refl _)
  · refine Is.callB h2 fun b hc => ?_
    cases b <;> conv => whnf
    · exact Fin.old (congrArg (vI .i64) (by rw [checkE, if_neg (by simp at hb; omega), if_neg (by simp [hc])]; rfl)) (.refl _)
    · exact Fin.old (congrArg (vI .i64) (by rw [checkE, if_neg (by simp at hb; omega), if_pos hc]; rfl)) (.refl _)
end Go.Proofs.YtgbdhakkgnmeoaaGreat.D
namespace Go.Proofs.YtgbdhakkgnmeoaaGreat.D
set_option linter.unusedVariables false
set_option linter.unusedSimpArgs false
open Go Go.Proofs.YtgbdhakkgnmeoaaGreat.D.Pm
set_option maxRecDepth 4000
mutual
def foldE {X : Type} (f : X → Ex → X) (x : X) : Ex → X
  | .mk k op v n kids => foldEs f (f x (.mk k op v n kids)) kids
def foldEs {X : Type} (f : X → Ex → X) (x : X) : List Ex → X
  | [] => x
  | e :: l => foldEs f (foldE f x e) l
end
theorem foldEs_eq {X : Type} (f : X → Ex → X) : ∀ l x, foldEs f x l = l.foldl (foldE f) x
  | [], x => rfl
  | e :: l, x => by rw [foldEs, foldEs_eq f l]; rfl
theorem foldl_take {X α : Type} (f : X → α → X) (x : X) {l : List α} {i : Nat} (h : i < l.length) : (l.take (i + 1)).foldl f x = f ((l.take i).foldl f x) l[i] := by
  rw [List.take_add_one, List.getElem?_eq_getElem h, List.foldl_append]; rfl
mutual
def nodes : Ex → Nat
  | .mk _ _ _ _ kids => nodesL kids + 1
def nodesL : List Ex → Nat
  | [] => 0
  | e :: l => nodes e + nodesL l
end
theorem nodesL_drop {l : List Ex} {i : Nat} (h : i < l.length) : nodesL (l.drop i) = nodes l[i] + nodesL (l.drop (i + 1)) := by
  rw [List.drop_eq_getElem_cons h, nodesL]
/-- a call for each part, that changes what it has captured; with a measure of what is left -/
theorem eachS_is {X : Type} (g : Nat) (caps : List AC) (R : Nat → X → Sto → Prop) (f : X → Ex → X) (hf : ∀ e, okE e → ∀ b x st, R (b + 1) x st → Does Tryz.prog g (.g (eE e) :: caps.map .c) st fun r s => r = vB true ∧ R b (f x e) s) :
    ∀ e, okE e → ∀ b x st, R (nodes e + b) x st → Does Tryz.prog 89 [.g (eE e), .c (.fn g caps)] st fun r s => r = vB true ∧ R b (foldE f x e) s := by
  refine Ex.ind fun k op v n kids ih ok b x st hR => ?_
  refine Does.of TP Tryz.func89 rfl rfl (Nat.le_of_ble_eq_true rfl) (Pw.of TP [] ?_)
  conv => whnf
  have h0 := hf _ ok (nodesL kids + b) x st (by rw [nodes, Nat.add_right_comm] at hR; exact hR)
  have ea : foldE f x (.mk k op v n kids) = kids.foldl (foldE f) (f x (.mk k op v n kids)) := by rw [foldE, foldEs_eq]
  rw [ea]
  generalize f x (.mk k op v n kids) = y0 at h0 ⊢
  refine h0.mono fun r s h => ?_
  obtain ⟨rfl, hR0⟩ := h
  conv => whnf
  refine Pw.rngS (τ := X × Sto) 14 kids.length ok.2.2.1 [1, 12, 13] (fun _ _ => []) (fun _ y => y.2) (fun i y => y.1 = (kids.take i).foldl (foldE f) y0 ∧ R (nodesL (kids.drop i) + b) y.1 y.2) (y0, s) rfl ⟨⟩ (.refl _) ⟨rfl, hR0⟩ fun i y hi hx => Pw.of TP [] ?_
  obtain ⟨y, s2⟩ := y
  obtain ⟨hy, hR2⟩ := hx
  simp only at hy hR2 ⊢
  conv => whnf
  repeat' (first | (refine ⟨fun h => ?_, fun h => ?_⟩ <;> conv => whnf) | fail)
  · have hi' := ltE ‹_›
    refine ixE hi' ?_
    rw [nodesL_drop hi', Nat.add_assoc] at hR2
    have hm := ih kids[i] (List.getElem_mem hi') (okEs_all ok.2.2.2 _ (List.getElem_mem hi')) _ y s2 hR2
    have hs := foldl_take (foldE f) y0 hi'
    clear hR2
    generalize kids[i] = e at hm hs ⊢
    cases e
    conv => whnf
    refine hm.mono fun r s h => ?_
    obtain ⟨rfl, hR3⟩ := h
    conv => whnf
    exact ⟨hi', rfl, ⟨rfl, rfl, rfl, trivial⟩, (foldE f y _, s), trivial, .refl _, (by rw [hs, ← hy] : _ = _), hR3⟩
  · obtain rfl := nltE ‹_› hi
    refine Fin.same rfl (.refl _) ⟨rfl, ?_⟩
    rw [List.take_length] at hy
    rw [List.drop_length, nodesL, Nat.zero_add] at hR2
    exact hy ▸ hR2
end Go.Proofs.YtgbdhakkgnmeoaaGreat.D
