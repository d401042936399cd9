/- Words and contracts: a plain machine over the model, and what the functions that a law reaches come to, each for every input that its theorem names. -/
import Derived.Test.YtbmgenifdlgbmaaGreatProg
import Derived.Test.YtbmgenifdlgbmaaGreatV1
namespace Go.Proofs.YtbmgenifdlgbmaaGreat.D
set_option linter.unusedVariables false
set_option linter.unusedSimpArgs false
open Go Go.Proofs.YtbmgenifdlgbmaaGreat.D.Pm
def tt : TTree := (.node (.node (.node (.node (.node (.node .nil 1 ⟨.fn, 1, 8, [.nilFunc]⟩ .nil) 2 ⟨.i .i64, 1, 8, [.int .i64 0]⟩ .nil) 3 ⟨.i .i64, 1, 8, [.int .i64 0]⟩ (.node .nil 4 ⟨.b, 1, 1, [.bool false]⟩ .nil)) 5 ⟨.i .u8, 1, 1, [.int .u8 0]⟩ (.node (.node .nil 9 ⟨.s, 1, 16, [.string ⟨#[]⟩]⟩ .nil) 10 ⟨.s, 1, 16, [.string ⟨#[]⟩]⟩ (.node .nil 11 ⟨.s, 1, 16, [.string ⟨#[]⟩]⟩ .nil))) 15 ⟨.pt 116, 1, 8, [.pointer none]⟩ (.node (.node (.node .nil 16 ⟨.pt 119, 1, 8, [.pointer none]⟩ .nil) 17 ⟨.pt 129, 1, 8, [.pointer none]⟩ (.node .nil 23 ⟨.st [(0, 3), (1, 3), (2, 9)], 3, 32, [.int .i64 0, .int .i64 0, .string ⟨#[]⟩]⟩ .nil)) 24 ⟨.sl 26, 1, 24, [.slice none 0 0]⟩ (.node (.node .nil 26 ⟨.st [(0, 3), (1, 3), (2, 23), (5, 9), (6, 24)], 7, 88, [.int .i64 0, .int .i64 0, .int .i64 0, .int .i64 0, .string ⟨#[]⟩, .string ⟨#[]⟩, .slice none 0 0]⟩ .nil) 27 ⟨.sl 23, 1, 24, [.slice none 0 0]⟩ (.node .nil 31 ⟨.i .i64, 1, 8, [.int .i64 0]⟩ .nil)))) 41 ⟨.sl 27, 1, 24, [.slice none 0 0]⟩ (.node (.node (.node (.node .nil 44 ⟨.fn, 1, 8, [.nilFunc]⟩ .nil) 47 ⟨.st [(0, 27), (1, 27)], 2, 48, [.slice none 0 0, .slice none 0 0]⟩ (.node .nil 50 ⟨.i .i64, 1, 8, [.int .i64 0]⟩ .nil)) 57 ⟨.fn, 1, 8, [.nilFunc]⟩ (.node (.node .nil 79 ⟨.fn, 1, 8, [.nilFunc]⟩ .nil) 80 ⟨.fn, 1, 8, [.nilFunc]⟩ (.node .nil 82 ⟨.fn, 1, 8, [.nilFunc]⟩ .nil))) 87 ⟨.sl 3, 1, 24, [.slice none 0 0]⟩ (.node (.node (.node .nil 93 ⟨.st [(0, 3), (1, 9), (2, 3)], 3, 32, [.int .i64 0, .string ⟨#[]⟩, .int .i64 0]⟩ .nil) 96 ⟨.fn, 1, 8, [.nilFunc]⟩ (.node .nil 97 ⟨.sl 50, 1, 24, [.slice none 0 0]⟩ .nil)) 107 ⟨.fn, 1, 8, [.nilFunc]⟩ (.node (.node .nil 111 ⟨.sl 9, 1, 24, [.slice none 0 0]⟩ .nil) 112 ⟨.ay 2 111, 2, 48, [.slice none 0 0, .slice none 0 0]⟩ (.node .nil 123 ⟨.i .u8, 1, 1, [.int .u8 0]⟩ .nil)))))
theorem TP : TOk Tryz.prog tt.get := tok (by kernel_rfl)
theorem mixed : Tryz.prog.follows .mixedOrders = true := by kernel_rfl
end Go.Proofs.YtbmgenifdlgbmaaGreat.D
namespace Go.Proofs.YtbmgenifdlgbmaaGreat.D
set_option linter.unusedVariables false
set_option linter.unusedSimpArgs false
open Go Go.Proofs.YtbmgenifdlgbmaaGreat.D.Pm
def small (c : Int) : Bool := decide (97 ≤ c ∧ c ≤ 122)
def capital (c : Int) : Bool := decide (65 ≤ c ∧ c ≤ 90)
def digit (c : Int) : Bool := decide (48 ≤ c ∧ c ≤ 57)
theorem small_is (c : Int) : Is Tryz.prog 94 [vI .u8 c] (vB (small c)) := by
  refine Is.of TP Tryz.func94 rfl rfl (Nat.le_of_ble_eq_true rfl) fun st => Pw.of TP [] ?_
  conv => whnf
  refine ⟨fun h => ?_, fun h => ?_⟩ <;> conv => whnf
  · refine ⟨fun h => ?_, fun h => ?_⟩ <;> conv => whnf
    · exact Fin.old (congrArg vB (by simp [small]; omega)) (.refl _)
    · exact Fin.old (congrArg vB (by simp [small]; omega)) (.refl _)
  · exact Fin.old (congrArg vB (by simp [small]; omega)) (.refl _)
theorem capital_is (c : Int) : Is Tryz.prog 99 [vI .u8 c] (vB (capital c)) := by
  refine Is.of TP Tryz.func99 rfl rfl (Nat.le_of_ble_eq_true rfl) fun st => Pw.of TP [] ?_
  conv => whnf
  repeat' (first | (refine ⟨fun h => ?_, fun h => ?_⟩ <;> conv => whnf) | fail)
  all_goals (refine Fin.old (congrArg vB ?_) (.refl _); simp [capital]; omega)
theorem digit_is (c : Int) : Is Tryz.prog 97 [vI .u8 c] (vB (digit c)) := by
  refine Is.of TP Tryz.func97 rfl rfl (Nat.le_of_ble_eq_true rfl) fun st => Pw.of TP [] ?_
  conv => whnf
  repeat' (first | (refine ⟨fun h => ?_, fun h => ?_⟩ <;> conv => whnf) | fail)
  all_goals (refine Fin.old (congrArg vB ?_) (.refl _); simp [digit]; omega)
/-- the bytes of a word; of a key -/
def wordc (c : Int) : Bool := small c || digit c || decide (c = 95)
def keyc (c : Int) : Bool := capital c || decide (c = 95)
def gluec (c : Int) : Bool := small c || capital c || digit c || decide (c = 95) || decide (c = 36)
theorem one1_is (c : Int) : Is Tryz.prog 96 [vI .u8 c] (vB (wordc c)) := by
  refine Is.of TP Tryz.func96 rfl rfl (Nat.le_of_ble_eq_true rfl) fun st => Pw.of TP [] ?_
  conv => whnf
  repeat' (first | (refine ⟨fun h => ?_, fun h => ?_⟩ <;> conv => whnf) | (refine Is.callB (small_is _) fun b hb => ?_; cases b <;> conv => whnf) | (refine Is.callB (digit_is _) fun b hb => ?_; cases b <;> conv => whnf) | fail)
  all_goals (refine Fin.old (congrArg vB ?_) (.refl _); simp [wordc, *])
theorem one2_is (c : Int) : Is Tryz.prog 100 [vI .u8 c] (vB (keyc c)) := by
  refine Is.of TP Tryz.func100 rfl rfl (Nat.le_of_ble_eq_true rfl) fun st => Pw.of TP [] ?_
  conv => whnf
  repeat' (first | (refine ⟨fun h => ?_, fun h => ?_⟩ <;> conv => whnf) | (refine Is.callB (capital_is _) fun b hb => ?_; cases b <;> conv => whnf) | fail)
  all_goals (refine Fin.old (congrArg vB ?_) (.refl _); simp [keyc, *])
theorem glued_is (c : Int) : Is Tryz.prog 106 [vI .u8 c] (vB (gluec c)) := by
  refine Is.of TP Tryz.func106 rfl rfl (Nat.le_of_ble_eq_true rfl) fun st => Pw.of TP [] ?_
  conv => whnf
  repeat' (first | (refine ⟨fun h => ?_, fun h => ?_⟩ <;> conv => whnf) | (refine Is.callB (small_is _) fun b hb => ?_; cases b <;> conv => whnf) | (refine Is.callB (capital_is _) fun b hb => ?_; cases b <;> conv => whnf) | (refine Is.callB (digit_is _) fun b hb => ?_; cases b <;> conv => whnf) | fail)
  all_goals (refine Fin.old (congrArg vB ?_) (.refl _); simp [gluec, *])
end Go.Proofs.YtbmgenifdlgbmaaGreat.D
namespace Go.Proofs.YtbmgenifdlgbmaaGreat.D
set_option linter.unusedVariables false
set_option linter.unusedSimpArgs false
open Go Go.Proofs.YtbmgenifdlgbmaaGreat.D.Pm
def run (p : Int → Bool) (s : ByteArray) : Nat → Nat → Nat
  | _, 0 => 0
  | k, m + 1 => if k < s.size then (if p (by_ s k) = true then run p s (k + 1) m + 1 else 0) else 0
theorem run_no {p : Int → Bool} {s : ByteArray} {k m : Nat} (h : ¬ k < s.size) : run p s k m = 0 := by cases m <;> simp [run, h]
theorem run_np {p : Int → Bool} {s : ByteArray} {k m : Nat} (h : p (by_ s k) = false) : run p s k m = 0 := by cases m <;> simp [run, h]
theorem while_is (p : Int → Bool) (f : Nat) (hf : ∀ c, Is Tryz.prog f [vI .u8 c] (vB (p c))) (s : ByteArray) (hs : s.size ≤ Big) (k m : Nat) (hk : k ≤ Big) (hm : m ≤ Big) :
    Is Tryz.prog 95 [vS s, vI .i64 k, vI .i64 m, .c (.fn f [])] (vI .i64 (run p s k m : Nat)) := by
  refine Is.of TP Tryz.func95 rfl rfl (Nat.le_of_ble_eq_true rfl) fun st => Pw.of TP [] ?_
  conv => whnf
  refine Pw.rng (τ := Unit) 9 m hm [0, 1, 2, 3] (fun _ => []) (fun i _ => run p s k m = i + run p s (k + i) (m - i)) () rfl trivial (by simp) fun i x hi hx => Pw.of TP [] ?_
  conv => whnf
  have e1 : IntKind.i64.wrap ((k : Int) + (i : Int)) = ((k + i : Nat) : Int) := by rw [wrap_id] <;> simp [Big] at * <;> omega
  rw [e1]
  repeat' (first | (refine ⟨fun h => ?_, fun h => ?_⟩ <;> conv => whnf) | fail)
  · rw [e1]
    refine ⟨by omega, by omega, ?_⟩
    conv => whnf
    refine Is.callB (hf _) fun b hb => ?_
    have hlt : i < m := by omega
    obtain ⟨d, hd⟩ : ∃ d, m - i = d + 1 := ⟨m - i - 1, by omega⟩
    cases b <;> conv => whnf
    · refine Fin.old (congrArg (vI .i64) ?_) (.refl _)
      rw [hd, run_np hb] at hx
      rw [hx]; rfl
    · refine ⟨hlt, rfl, ⟨rfl, rfl, rfl, rfl, trivial⟩, (), trivial, .refl _, ?_⟩
      rw [hx, hd, run, if_pos (by omega), if_pos hb, show m - (i + 1) = d by omega, show k + (i + 1) = k + i + 1 by omega]
      omega
  · refine Fin.old (congrArg (vI .i64) ?_) (.refl _)
    rw [hx, show m - i = 0 by omega]; rfl
  · refine Fin.old (congrArg (vI .i64) ?_) (.refl _)
    rw [hx, run_no (by omega)]; rfl
end Go.Proofs.YtbmgenifdlgbmaaGreat.D
namespace Go.Proofs.YtbmgenifdlgbmaaGreat.D
set_option linter.unusedVariables false
set_option linter.unusedSimpArgs false
open Go Go.Proofs.YtbmgenifdlgbmaaGreat.D.Pm
def strC (x : ByteArray) : List AC := [.v (.string x)]
def eS (l : List ByteArray) : AC := .sl 1 (l.map strC)
def hasPre (s t : ByteArray) : Bool := decide (t.size ≤ s.size ∧ s.extract 0 t.size = t)
theorem hasPre0_is (s t : ByteArray) (hs : s.size ≤ Big) : Is Tryz.prog 108 [vS s, vS t] (vB (hasPre s t)) := by
  refine Is.of TP Tryz.func108 rfl rfl (Nat.le_of_ble_eq_true rfl) fun st => Pw.of TP [] ?_
  conv => whnf
  repeat' (first | (refine ⟨fun h => ?_, fun h => ?_⟩ <;> conv => whnf) | fail)
  · refine ⟨by simp, by simp, by omega, ?_⟩
    conv => whnf
    repeat' (first | (refine ⟨fun h => ?_, fun h => ?_⟩ <;> conv => whnf) | fail)
    · (refine Fin.old (congrArg vB ?_) (.refl _); simp at *; simp [hasPre, *])
    · (refine Fin.old (congrArg vB ?_) (.refl _); simp at *; simp [hasPre, *])
  · (refine Fin.old (congrArg vB ?_) (.refl _); simp at *; simp [hasPre]; omega)
theorem hasPre_is (s t : ByteArray) (hs : s.size ≤ Big) : Is Tryz.prog 107 [vS s, vS t] (vB (hasPre s t)) := by
  refine Is.of TP Tryz.func107 rfl rfl (Nat.le_of_ble_eq_true rfl) fun st => Pw.of TP [] ?_
  conv => whnf
  refine Is.callB (hasPre0_is _ _ hs) fun b hb => ?_
  conv => whnf
  (refine Fin.old (congrArg vB ?_) (.refl _); simp [hb])
def signs1 : List ByteArray := [⟨#[60, 62]⟩, ⟨#[60, 61]⟩, ⟨#[62, 61]⟩, ⟨#[124, 124]⟩]
def signs2 : List ByteArray := [⟨#[40]⟩, ⟨#[41]⟩, ⟨#[44]⟩, ⟨#[61]⟩, ⟨#[60]⟩, ⟨#[62]⟩, ⟨#[43]⟩, ⟨#[45]⟩, ⟨#[42]⟩, ⟨#[47]⟩, ⟨#[37]⟩]
def signOf (s : ByteArray) : Nat := ((signs1 ++ signs2).find? (hasPre s)).elim 0 ByteArray.size
theorem find_at {α : Type} {p : α → Bool} : ∀ {l : List α} {j : Nat} (h : j < l.length), (∀ x ∈ l.take j, p x = false) → p l[j] = true → l.find? p = some l[j]
  | a :: l, 0, h, hn, hp => by simp at hp; simp [List.find?, hp]
  | a :: l, j + 1, h, hn, hp => by
    have ha : p a = false := hn a (by simp)
    simp only [List.find?, ha]
    simpa using find_at (l := l) (j := j) (by simpa using h) (fun x hx => hn x (by simp [hx])) (by simpa using hp)
theorem find_no {α : Type} {p : α → Bool} {l : List α} (h : ∀ x ∈ l, p x = false) : l.find? p = none := by
  rw [List.find?_eq_none]; intro x hx; simp [h x hx]
theorem sign_is (s : ByteArray) (hs : s.size ≤ Big) : Is Tryz.prog 102 [vS s] (vI .i64 (signOf s)) := by
  refine Is.of TP Tryz.func102 rfl rfl (Nat.le_of_ble_eq_true rfl) fun st => Pw.of TP [] ?_
  conv => whnf
  refine Pw.rng (τ := Unit) 11 2 (by decide) [0, 3, 10] (fun _ => []) (fun i _ => (0 < i → ∀ x ∈ signs1, hasPre s x = false) ∧ (1 < i → ∀ x ∈ signs2, hasPre s x = false)) () rfl trivial ⟨by simp, by simp⟩ fun i _ hi hx => Pw.of TP [] ?_
  conv => whnf
  repeat' (first | (refine ⟨fun h => ?_, fun h => ?_⟩ <;> conv => whnf) | fail)
  · obtain ⟨L, hL, hLL⟩ : ∃ L, ldc tt.get 111 (([.sl 1 (signs1.map strC), .sl 1 (signs2.map strC)] : List AC).drop ((i : Int).toNat * 1)) = some (.c (.sl 1 (L.map strC))) ∧ (i = 0 ∧ L = signs1 ∨ i = 1 ∧ L = signs2) := by
      obtain rfl | rfl : i = 0 ∨ i = 1 := by omega
      · exact ⟨signs1, rfl, .inl ⟨rfl, rfl⟩⟩
      · exact ⟨signs2, rfl, .inr ⟨rfl, rfl⟩⟩
    have hLn : L.length ≤ Big := by rcases hLL with ⟨_, rfl⟩ | ⟨_, rfl⟩ <;> decide
    refine ⟨by omega, by omega, onO_mk hL ?_⟩
    conv => whnf
    refine Pw.rng (τ := Unit) 16 L.length hLn [0, 3, 10, 11, 14, 15] (fun _ => []) (fun j _ => ∀ x ∈ L.take j, hasPre s x = false) () rfl trivial (by simp) fun j _ hj hy => Pw.of TP [] ?_
    conv => whnf
    repeat' (first | (refine ⟨fun h => ?_, fun h => ?_⟩ <;> conv => whnf) | fail)
    · have hj' := lt_map ‹_›
      refine ixm hj' ?_
      conv => whnf
      refine Is.callB (hasPre_is _ _ hs) fun b hb => ?_
      cases b <;> conv => whnf
      · refine ⟨hj', rfl, ⟨rfl, rfl, rfl, rfl, rfl, rfl, trivial⟩, (), trivial, .refl _, fun x hx => ?_⟩
        rw [List.take_add_one, List.getElem?_eq_getElem hj'] at hx
        rcases List.mem_append.1 hx with hx | hx
        · exact hy x hx
        · simp at hx; rw [hx]; exact hb
      · refine Fin.old (congrArg (vI .i64) ?_) (.refl _)
        have hf := find_at hj' hy hb
        rcases hLL with ⟨rfl, rfl⟩ | ⟨rfl, rfl⟩
        · simp only [signOf, List.find?_append, hf]; rfl
        · simp only [signOf, List.find?_append, find_no (hx.1 (by omega)), hf]; rfl
    · have hj' := nlt_map ‹_› hj
      subst hj'
      refine ⟨by omega, rfl, ⟨rfl, rfl, rfl, trivial⟩, (), trivial, .refl _, fun h0 => ?_, fun h1 => ?_⟩
      · rcases hLL with ⟨rfl, rfl⟩ | ⟨rfl, rfl⟩
        · simpa using hy
        · exact hx.1 (by omega)
      · rcases hLL with ⟨rfl, rfl⟩ | ⟨rfl, rfl⟩
        · omega
        · simpa using hy
  · obtain rfl : i = 2 := by omega
    refine Fin.old (congrArg (vI .i64) ?_) (.refl _)
    simp only [signOf, List.find?_append, find_no (hx.1 (by omega)), find_no (hx.2 (by omega))]; rfl
theorem alone_is (s : ByteArray) (hs : s.size ≤ Big) (n : Nat) : Is Tryz.prog 98 [vS s, vI .i64 n] (vI .i64 (if n < s.size ∧ gluec (by_ s n) = true then 0 else n : Nat)) := by
  refine Is.of TP Tryz.func98 rfl rfl (Nat.le_of_ble_eq_true rfl) fun st => Pw.of TP [] ?_
  conv => whnf
  repeat' (first | (refine ⟨fun h => ?_, fun h => ?_⟩ <;> conv => whnf) | fail)
  · refine ⟨by omega, by omega, ?_⟩
    conv => whnf
    repeat' (first | (refine ⟨fun h => ?_, fun h => ?_⟩ <;> conv => whnf) | (refine Is.callB (glued_is _) fun b hb => ?_; cases b <;> conv => whnf) | fail)
    · exact Fin.old (congrArg (vI .i64) (by simp at *; simp [*])) (.refl _)
    · exact Fin.old (congrArg (vI .i64) (by simp at *; simp [*])) (.refl _)
  · exact Fin.old (congrArg (vI .i64) (by simp at *; rw [if_neg (by omega)])) (.refl _)
end Go.Proofs.YtbmgenifdlgbmaaGreat.D
namespace Go.Proofs.YtbmgenifdlgbmaaGreat.D
set_option linter.unusedVariables false
set_option linter.unusedSimpArgs false
open Go Go.Proofs.YtbmgenifdlgbmaaGreat.D.Pm
def quo (s : ByteArray) : Nat → Nat → Nat
  | 0, _ => 0
  | f + 1, i => if i < s.size then (if by_ s i < 32 then 0 else if 126 < by_ s i then 0 else if by_ s i = 39 then (if i + 1 < s.size then (if by_ s (i + 1 : Nat) = 39 then quo s f (i + 2) else i + 1) else i + 1) else quo s f (i + 1)) else 0
def quoted (s : ByteArray) : Nat := quo s s.size 1
theorem quoted_is (s : ByteArray) (hs : s.size < Big) : Is Tryz.prog 101 [vS s] (vI .i64 (quoted s)) := by
  refine Is.of TP Tryz.func101 rfl rfl (Nat.le_of_ble_eq_true rfl) fun st => Pw.of TP [] ?_
  conv => whnf
  refine Pw.lp (σ := Nat × Nat) [0] (fun x => [(3, vI .i64 x.2)]) (fun x => quoted s = quo s x.1 x.2 ∧ s.size ≤ x.2 + x.1 ∧ x.2 ≤ s.size + 2) (fun x => x.1) (s.size, 1) ⟨rfl, trivial⟩ ⟨rfl, by omega, by omega⟩ fun x hx => Pw.of TP [] ?_
  obtain ⟨f, i⟩ := x
  obtain ⟨h1, h2, h3⟩ := hx
  simp only at h1 h2 h3 ⊢
  conv => whnf
  have w1 : IntKind.i64.wrap ((i : Int) + 1) = ((i + 1 : Nat) : Int) := by rw [wrap_id] <;> simp [Big] at * <;> omega
  have w2 : IntKind.i64.wrap (((i + 1 : Nat) : Int) + 1) = ((i + 1 + 1 : Nat) : Int) := by rw [wrap_id] <;> simp [Big] at * <;> omega
  repeat' (first | (refine ⟨fun h => ?_, fun h => ?_⟩ <;> conv => whnf) | fail)
  · have hi : i < s.size := by omega
    obtain ⟨f, rfl⟩ : ∃ g, f = g + 1 := ⟨f - 1, by omega⟩
    refine ⟨by omega, by omega, ?_⟩
    rw [quo, if_pos hi] at h1
    conv => whnf
    repeat' (first | (refine ⟨fun h => ?_, fun h => ?_⟩ <;> conv => whnf) | fail)
    · refine Fin.old (congrArg (vI .i64) ?_) (.refl _)
      rw [h1, if_pos ‹_›]; rfl
    · refine ⟨by omega, by omega, ?_⟩
      rw [if_neg ‹_›] at h1
      conv => whnf
      repeat' (first | (refine ⟨fun h => ?_, fun h => ?_⟩ <;> conv => whnf) | fail)
      · refine Fin.old (congrArg (vI .i64) ?_) (.refl _)
        rw [h1, if_pos ‹_›]; rfl
      · refine ⟨by omega, by omega, ?_⟩
        rw [if_neg ‹_›] at h1
        conv => whnf
        repeat' (first | (refine ⟨fun h => ?_, fun h => ?_⟩ <;> conv => whnf) | fail)
        · rw [if_neg ‹_›] at h1
          refine ⟨⟨rfl, trivial⟩, (f, i + 1), ⟨congrArg (fun n => some (vI .i64 n)) w1, trivial⟩, .refl _, ⟨h1, by simp only; omega, by simp only; omega⟩, by simp⟩
        · have h39 : by_ s i = 39 := Classical.not_not.1 ‹_›
          rw [if_pos h39] at h1
          refine ⟨by omega, by omega, ?_⟩
          rw [if_pos (by omega)] at h1
          conv => whnf
          rw [w1]
          repeat' (first | (refine ⟨fun h => ?_, fun h => ?_⟩ <;> conv => whnf) | fail)
          · rw [if_pos ‹_›] at h1
            refine ⟨⟨rfl, trivial⟩, (f, i + 2), ⟨congrArg (fun n => some (vI .i64 n)) (by rw [w1, w2]), trivial⟩, .refl _, ⟨h1, by simp only; omega, by simp only; omega⟩, by simp⟩
          · rw [if_neg ‹_›] at h1
            refine Fin.old (congrArg (vI .i64) ?_) (.refl _)
            rw [h1, w1]
        · have h39 : by_ s i = 39 := Classical.not_not.1 ‹_›
          rw [if_pos h39, if_neg (by omega)] at h1
          refine Fin.old (congrArg (vI .i64) ?_) (.refl _)
          rw [h1, w1]
  · refine Fin.old (congrArg (vI .i64) ?_) (.refl _)
    rw [h1]
    cases f with
    | zero => rfl
    | succ f => rw [quo, if_neg (by omega)]; rfl
end Go.Proofs.YtbmgenifdlgbmaaGreat.D
namespace Go.Proofs.YtbmgenifdlgbmaaGreat.D
set_option linter.unusedVariables false
set_option linter.unusedSimpArgs false
open Go Go.Proofs.YtbmgenifdlgbmaaGreat.D.Pm
def alone (s : ByteArray) (n : Nat) : Nat := if n < s.size ∧ gluec (by_ s n) = true then 0 else n
def one (s : ByteArray) : Nat × Nat :=
  if small (by_ s 0) = true then (1, alone s (run wordc s 0 12))
  else if capital (by_ s 0) = true then (2, alone s (run keyc s 0 16))
  else if by_ s 0 = 48 then (3, alone s 1)
  else if digit (by_ s 0) = true then (3, alone s (run digit s 0 19))
  else if by_ s 0 = 39 then (4, quoted s)
  else if by_ s 0 = 36 then (if s.size < 2 then (5, 0) else if by_ s 1 < 49 then (5, 0) else if 54 < by_ s 1 then (5, 0) else (5, alone s 2))
  else (6, signOf s)
theorem oneE {s : ByteArray} {a b : Nat} (e : one s = (a, b)) : tupl [vI .i64 a, vI .i64 b] = .t [vI .i64 (one s).1, vI .i64 (one s).2] := by rw [e]; rfl
theorem one_is (s : ByteArray) (hs : s.size < Big) (h0 : 0 < s.size) : Is Tryz.prog 82 [vS s] (.t [vI .i64 (one s).1, vI .i64 (one s).2]) := by
  have hb : s.size ≤ Big := Nat.le_of_lt hs
  refine Is.of TP Tryz.func82 rfl rfl (Nat.le_of_ble_eq_true rfl) fun st => Pw.of TP [] ?_
  conv => whnf
  refine ⟨by omega, by omega, ?_⟩
  conv => whnf
  refine Is.callB (small_is _) fun b h1 => ?_
  cases b <;> conv => whnf
  · refine Is.callB (capital_is _) fun b h2 => ?_
    cases b <;> conv => whnf
    · repeat' (first | (refine ⟨fun h => ?_, fun h => ?_⟩ <;> conv => whnf) | fail)
      · refine (alone_is s hb 1).call ?_
        conv => whnf
        exact Fin.old (oneE (by unfold one; rw [if_neg (by simp [h1]), if_neg (by simp [h2]), if_pos ‹_›] <;> rfl)) (.refl _)
      · refine Is.callB (digit_is _) fun b h4 => ?_
        cases b <;> conv => whnf
        · repeat' (first | (refine ⟨fun h => ?_, fun h => ?_⟩ <;> conv => whnf) | fail)
          · refine (quoted_is s hs).call ?_
            conv => whnf
            exact Fin.old (oneE (by unfold one; rw [if_neg (by simp [h1]), if_neg (by simp [h2]), if_neg ‹_›, if_neg (by simp [h4]), if_pos ‹_›] <;> rfl)) (.refl _)
          · exact Fin.old (oneE (by unfold one; rw [if_neg (by simp [h1]), if_neg (by simp [h2]), if_neg ‹_›, if_neg (by simp [h4]), if_neg ‹_›, if_pos ‹_›, if_pos (by omega)] <;> rfl)) (.refl _)
          · refine ⟨by omega, by omega, ?_⟩
            conv => whnf
            repeat' (first | (refine ⟨fun h => ?_, fun h => ?_⟩ <;> conv => whnf) | fail)
            · exact Fin.old (oneE (by unfold one; rw [if_neg (by simp [h1]), if_neg (by simp [h2]), if_neg ‹_›, if_neg (by simp [h4]), if_neg ‹_›, if_pos ‹_›, if_neg (by omega), if_pos ‹_›] <;> rfl)) (.refl _)
            · refine ⟨by omega, by omega, ?_⟩
              conv => whnf
              repeat' (first | (refine ⟨fun h => ?_, fun h => ?_⟩ <;> conv => whnf) | fail)
              · exact Fin.old (oneE (by unfold one; rw [if_neg (by simp [h1]), if_neg (by simp [h2]), if_neg ‹_›, if_neg (by simp [h4]), if_neg ‹_›, if_pos ‹_›, if_neg (by omega), if_neg ‹_›, if_pos ‹_›] <;> rfl)) (.refl _)
              · refine (alone_is s hb 2).call ?_
                conv => whnf
                exact Fin.old (oneE (by unfold one; rw [if_neg (by simp [h1]), if_neg (by simp [h2]), if_neg ‹_›, if_neg (by simp [h4]), if_neg ‹_›, if_pos ‹_›, if_neg (by omega), if_neg ‹_›, if_neg ‹_›] <;> rfl)) (.refl _)
          · refine (sign_is s hb).call ?_
            conv => whnf
            exact Fin.old (oneE (by unfold one; rw [if_neg (by simp [h1]), if_neg (by simp [h2]), if_neg ‹_›, if_neg (by simp [h4]), if_neg ‹_›, if_neg ‹_›] <;> rfl)) (.refl _)
        · refine (while_is digit _ digit_is s hb 0 19 (by decide) (by decide)).call ?_
          conv => whnf
          refine (alone_is s hb _).call ?_
          conv => whnf
          exact Fin.old (oneE (by unfold one; rw [if_neg (by simp [h1]), if_neg (by simp [h2]), if_neg ‹_›, if_pos h4] <;> rfl)) (.refl _)
    · refine (while_is keyc _ one2_is s hb 0 16 (by decide) (by decide)).call ?_
      conv => whnf
      refine (alone_is s hb _).call ?_
      conv => whnf
      exact Fin.old (oneE (by unfold one; rw [if_neg (by simp [h1]), if_pos h2] <;> rfl)) (.refl _)
  · refine (while_is wordc _ one1_is s hb 0 12 (by decide) (by decide)).call ?_
    conv => whnf
    refine (alone_is s hb _).call ?_
    conv => whnf
    exact Fin.old (oneE (by unfold one; rw [if_pos h1] <;> rfl)) (.refl _)
/-! ### names -/
def eTok (k at_ : Int) (s : ByteArray) : List AC := [.v (.int .i64 k), .v (.string s), .v (.int .i64 at_)]
def right (k at_ : Int) (s : ByteArray) : Bool :=
  if at_ < 0 then false else if s = ⟨#[]⟩ then decide (k = 7) else decide ((one s).2 = s.size ∧ ((one s).1 : Int) = k)
theorem right_is (k at_ : Int) (s : ByteArray) (hs : s.size < Big) : Is Tryz.prog 71 [.g (eTok k at_ s)] (vB (right k at_ s)) := by
  refine Is.of TP Tryz.func71 rfl rfl (Nat.le_of_ble_eq_true rfl) fun st => Pw.of TP [] ?_
  conv => whnf
  repeat' (first | (refine ⟨fun h => ?_, fun h => ?_⟩ <;> conv => whnf) | fail)
  · exact Fin.old (congrArg vB (by unfold right; rw [if_pos ‹_›])) (.refl _)
  · exact Fin.old (congrArg vB (by unfold right; rw [if_neg (by omega), if_pos ‹_›]; simp [*])) (.refl _)
  · exact Fin.old (congrArg vB (by unfold right; rw [if_neg (by omega), if_pos ‹_›]; simp [*])) (.refl _)
  · have h0 : 0 < s.size := by
      rcases Nat.eq_zero_or_pos s.size with h0 | h0
      · have e : s = ByteArray.empty := by simpa using h0
        exact absurd e ‹_›
      · exact h0
    refine (one_is s hs h0).call ?_
    conv => whnf
    repeat' (first | (refine ⟨fun h => ?_, fun h => ?_⟩ <;> conv => whnf) | fail)
    · exact Fin.old (congrArg vB (by unfold right; rw [if_neg (by omega), if_neg ‹_›]; exact (decide_eq_true ⟨by omega, by omega⟩).symm)) (.refl _)
    · exact Fin.old (congrArg vB (by unfold right; rw [if_neg (by omega), if_neg ‹_›]; exact (decide_eq_false (fun h => by omega)).symm)) (.refl _)
    · exact Fin.old (congrArg vB (by unfold right; rw [if_neg (by omega), if_neg ‹_›]; exact (decide_eq_false (fun h => by omega)).symm)) (.refl _)
def isName (s : ByteArray) : Bool := right 1 0 s
theorem isName_is (s : ByteArray) (hs : s.size < Big) : Is Tryz.prog 41 [vS s] (vB (isName s)) := by
  refine Is.of TP Tryz.func41 rfl rfl (Nat.le_of_ble_eq_true rfl) fun st => Pw.of TP [] ?_
  conv => whnf
  refine Is.callB (right_is 1 0 s hs) fun b hb => ?_
  conv => whnf
  exact Fin.old (congrArg vB hb.symm) (.refl _)
end Go.Proofs.YtbmgenifdlgbmaaGreat.D
namespace Go.Proofs.YtbmgenifdlgbmaaGreat.D
set_option linter.unusedVariables false
set_option linter.unusedSimpArgs false
open Go Go.Proofs.YtbmgenifdlgbmaaGreat.D.Pm
def anyTo (s : ByteArray) (c : Int) : Nat → Bool
  | 0 => false
  | n + 1 => anyTo s c n || decide (by_ s n = c)
def memB (s : ByteArray) (c : Int) : Bool := anyTo s c s.size
def allN (s : ByteArray) (p : Int → Bool) : Nat → Nat → Bool
  | _, 0 => true
  | k, n + 1 => p (by_ s k) && allN s p (k + 1) n
def allB (s : ByteArray) (k : Nat) (p : Int → Bool) : Bool := allN s p k (s.size - k)
theorem allB_end {s : ByteArray} {k : Nat} {p : Int → Bool} (h : ¬ k < s.size) : allB s k p = true := by
  unfold allB; rw [show s.size - k = 0 by omega]; rfl
theorem allB_on {s : ByteArray} {k : Nat} {p : Int → Bool} (h : k < s.size) : allB s k p = (p (by_ s k) && allB s (k + 1) p) := by
  unfold allB; rw [show s.size - k = (s.size - (k + 1)) + 1 by omega]; rfl
def plainc (c : Int) : Bool := decide (32 ≤ c ∧ c ≤ 126)
def plain (s : ByteArray) : Bool := allB s 0 plainc
theorem rplain_is (s : ByteArray) (hs : s.size ≤ Big) : Is Tryz.prog 79 [vS s] (vB (plain s)) := by
  refine Is.of TP Tryz.func79 rfl rfl (Nat.le_of_ble_eq_true rfl) fun st => Pw.of TP [] ?_
  conv => whnf
  refine Pw.rng (τ := Unit) 3 s.size hs [0] (fun _ => []) (fun i _ => plain s = allB s i plainc) () rfl trivial rfl fun i _ hi hx => Pw.of TP [] ?_
  conv => whnf
  repeat' (first | (refine ⟨fun h => ?_, fun h => ?_⟩ <;> conv => whnf) | fail)
  · have hi' : i < s.size := by omega
    rw [allB_on hi'] at hx
    refine ⟨by omega, by omega, ?_⟩
    conv => whnf
    repeat' (first | (refine ⟨fun h => ?_, fun h => ?_⟩ <;> conv => whnf) | fail)
    · (refine Fin.old (congrArg vB ?_) (.refl _); rw [hx]; simp [plainc]; omega)
    · refine ⟨by omega, by omega, ?_⟩
      conv => whnf
      repeat' (first | (refine ⟨fun h => ?_, fun h => ?_⟩ <;> conv => whnf) | fail)
      · (refine Fin.old (congrArg vB ?_) (.refl _); rw [hx]; simp [plainc]; omega)
      · exact ⟨hi', rfl, ⟨rfl, trivial⟩, (), trivial, .refl _, by rw [hx]; simp [plainc]; omega⟩
  · (refine Fin.old (congrArg vB ?_) (.refl _); rw [hx, allB_end (by omega)])
theorem plain_is (s : ByteArray) (hs : s.size ≤ Big) : Is Tryz.prog 70 [vS s] (vB (plain s)) := by
  refine Is.of TP Tryz.func70 rfl rfl (Nat.le_of_ble_eq_true rfl) fun st => Pw.of TP [] ?_
  conv => whnf
  refine Pw.rng (τ := Unit) 6 s.size hs [0, 5] (fun _ => []) (fun i _ => plain s = allB s i plainc) () rfl trivial rfl fun i _ hi hx => Pw.of TP [] ?_
  conv => whnf
  repeat' (first | (refine ⟨fun h => ?_, fun h => ?_⟩ <;> conv => whnf) | fail)
  · have hi' : i < s.size := by omega
    rw [allB_on hi'] at hx
    refine ⟨by omega, by omega, ?_⟩
    conv => whnf
    repeat' (first | (refine ⟨fun h => ?_, fun h => ?_⟩ <;> conv => whnf) | fail)
    · (refine Fin.old (congrArg vB ?_) (.refl _); rw [hx]; simp [plainc]; omega)
    · refine ⟨by omega, by omega, ?_⟩
      conv => whnf
      repeat' (first | (refine ⟨fun h => ?_, fun h => ?_⟩ <;> conv => whnf) | fail)
      · (refine Fin.old (congrArg vB ?_) (.refl _); rw [hx]; simp [plainc]; omega)
      · exact ⟨hi', rfl, ⟨rfl, rfl, trivial⟩, (), trivial, .refl _, by rw [hx]; simp [plainc]; omega⟩
  · (refine Fin.old (congrArg vB ?_) (.refl _); rw [hx, allB_end (by omega)])
theorem all_is (s : ByteArray) (hs : s.size ≤ Big) (k : Nat) (hk : k ≤ Big) (t : ByteArray) (ht : t.size ≤ Big) : Is Tryz.prog 91 [vS s, vI .i64 k, vS t] (vB (allB s k (memB t))) := by
  refine Is.of TP Tryz.func91 rfl rfl (Nat.le_of_ble_eq_true rfl) fun st => Pw.of TP [] ?_
  conv => whnf
  refine Pw.lp (σ := Nat) [0, 2] (fun i => [(7, vI .i64 i)]) (fun i => allB s k (memB t) = allB s i (memB t) ∧ i ≤ Big) (fun i => s.size - i) k ⟨rfl, trivial⟩ ⟨rfl, hk⟩ fun i hx => Pw.of TP [] ?_
  obtain ⟨hx, hb⟩ := hx
  conv => whnf
  repeat' (first | (refine ⟨fun h => ?_, fun h => ?_⟩ <;> conv => whnf) | fail)
  · have hi' : i < s.size := by omega
    rw [allB_on hi'] at hx
    refine Pw.rng (τ := Bool) 9 t.size ht [0, 2, 7] (fun b => [(8, vB b)]) (fun j b => b = anyTo t (by_ s i) j) false rfl ⟨rfl, trivial⟩ rfl fun j b hj hy => Pw.of TP [] ?_
    conv => whnf
    repeat' (first | (refine ⟨fun h => ?_, fun h => ?_⟩ <;> conv => whnf) | fail)
    · have hj' : j < t.size := by omega
      refine Pw.drw TP mixed (by kernel_rfl) ?_; conv => whnf
      cases b <;> conv => whnf
      · refine ⟨by omega, by omega, ?_⟩
        conv => whnf
        refine ⟨by omega, by omega, ?_⟩
        conv => whnf
        repeat' (first | (refine ⟨fun h => ?_, fun h => ?_⟩ <;> conv => whnf) | fail)
        · exact ⟨hj', rfl, ⟨rfl, rfl, rfl, trivial⟩, true, ⟨rfl, trivial⟩, .refl _, by simp [anyTo, *]⟩
        · exact ⟨hj', rfl, ⟨rfl, rfl, rfl, trivial⟩, false, ⟨rfl, trivial⟩, .refl _, by simp only [anyTo]; rw [← hy]; exact (decide_eq_false ‹_›).symm⟩
      · exact ⟨hj', rfl, ⟨rfl, rfl, rfl, trivial⟩, true, ⟨rfl, trivial⟩, .refl _, by simp only [anyTo]; rw [← hy]; rfl⟩
    · obtain rfl : j = t.size := by omega
      have hm : memB t (by_ s i) = b := hy.symm
      cases b <;> conv => whnf
      · (refine Fin.old (congrArg vB ?_) (.refl _); rw [hx, hm]; rfl)
      · refine ⟨⟨rfl, rfl, trivial⟩, i + 1, ⟨congrArg (fun n => some (vI .i64 n)) (wrap_nat (Nat.le_of_lt hi') hs), trivial⟩, .refl _, ⟨by rw [hx, hm]; rfl, by omega⟩, by omega⟩
  · (refine Fin.old (congrArg vB ?_) (.refl _); rw [hx, allB_end (by omega)])
end Go.Proofs.YtbmgenifdlgbmaaGreat.D
namespace Go.Proofs.YtbmgenifdlgbmaaGreat.D
set_option linter.unusedVariables false
set_option linter.unusedSimpArgs false
open Go Go.Proofs.YtbmgenifdlgbmaaGreat.D.Pm
set_option maxRecDepth 4000
def smalls : ByteArray := ⟨#[97, 98, 99, 100, 101, 102, 103, 104, 105, 106, 107, 108, 109, 110, 111, 112, 113, 114, 115, 116, 117, 118, 119, 120, 121, 122]⟩
def wordS : ByteArray := ⟨#[97, 98, 99, 100, 101, 102, 103, 104, 105, 106, 107, 108, 109, 110, 111, 112, 113, 114, 115, 116, 117, 118, 119, 120, 121, 122, 48, 49, 50, 51, 52, 53, 54, 55, 56, 57, 95]⟩
def capitals : ByteArray := ⟨#[65, 66, 67, 68, 69, 70, 71, 72, 73, 74, 75, 76, 77, 78, 79, 80, 81, 82, 83, 84, 85, 86, 87, 88, 89, 90]⟩
def keyS : ByteArray := ⟨#[65, 66, 67, 68, 69, 70, 71, 72, 73, 74, 75, 76, 77, 78, 79, 80, 81, 82, 83, 84, 85, 86, 87, 88, 89, 90, 95]⟩
def digitS : ByteArray := ⟨#[48, 49, 50, 51, 52, 53, 54, 55, 56, 57]⟩
def rsigns : List ByteArray := [⟨#[40]⟩, ⟨#[41]⟩, ⟨#[44]⟩, ⟨#[61]⟩, ⟨#[60, 62]⟩, ⟨#[60]⟩, ⟨#[60, 61]⟩, ⟨#[62]⟩, ⟨#[62, 61]⟩, ⟨#[43]⟩, ⟨#[45]⟩, ⟨#[42]⟩, ⟨#[47]⟩, ⟨#[37]⟩, ⟨#[124, 124]⟩]
def rsign (s : ByteArray) : Bool := rsigns.any fun t => decide (s = t)
theorem rsign_is (s : ByteArray) : Is Tryz.prog 93 [vS s] (vB (rsign s)) := by
  refine Is.of TP Tryz.func93 rfl rfl (Nat.le_of_ble_eq_true rfl) fun st => Pw.of TP [] ?_
  conv => whnf
  repeat' (first | (refine ⟨fun h => ?_, fun h => ?_⟩ <;> conv => whnf) | fail)
  all_goals (refine Fin.old (congrArg vB ?_) (.refl _); first | (subst h; rfl) | simp [rsign, rsigns, *])
def rqL (s : ByteArray) : Nat → Nat → Nat → Bool
  | 0, _, n => decide (n % 2 = 0)
  | f + 1, k, n => if by_ s k = 39 then rqL s f (k + 1) (n + 1) else if n % 2 = 1 then false else rqL s f (k + 1) n
def rquoted (s : ByteArray) : Bool := if s.size < 2 then false else if by_ s 0 = 39 then (if by_ s (s.size - 1 : Nat) = 39 then (if plain s = true then rqL s (s.size - 2) 1 0 else false) else false) else false
theorem rquoted_is (s : ByteArray) (hs : s.size ≤ Big) : Is Tryz.prog 92 [vS s] (vB (rquoted s)) := by
  refine Is.of TP Tryz.func92 rfl rfl (Nat.le_of_ble_eq_true rfl) fun st => Pw.of TP [3] ?_
  conv => whnf
  repeat' (first | (refine ⟨fun h => ?_, fun h => ?_⟩ <;> conv => whnf) | fail)
  · (refine Fin.old (congrArg vB ?_) (.refl _); rw [rquoted, if_pos (by omega)])
  · have w1 : IntKind.i64.wrap ((s.size : Int) - 1) = ((s.size - 1 : Nat) : Int) := by rw [wrap_id] <;> simp [Big] at * <;> omega
    refine ⟨by omega, by omega, ?_⟩
    conv => whnf
    repeat' (first | (refine ⟨fun h => ?_, fun h => ?_⟩ <;> conv => whnf) | fail)
    · (refine Fin.old (congrArg vB ?_) (.refl _); rw [rquoted, if_neg (by omega), if_neg ‹_›])
    · have h0 : by_ s 0 = 39 := Classical.not_not.1 ‹_›
      rw [w1]
      refine ⟨by omega, by omega, ?_⟩
      conv => whnf
      repeat' (first | (refine ⟨fun h => ?_, fun h => ?_⟩ <;> conv => whnf) | fail)
      · (refine Fin.old (congrArg vB ?_) (.refl _); rw [rquoted, if_neg (by omega), if_pos h0, if_neg ‹_›])
      · have h1 : by_ s (s.size - 1 : Nat) = 39 := Classical.not_not.1 ‹_›
        refine Is.callB (rplain_is s hs) fun b hb => ?_
        cases b <;> conv => whnf
        · (refine Fin.old (congrArg vB ?_) (.refl _); rw [rquoted, if_neg (by omega), if_pos h0, if_pos h1, if_neg (by simp [hb])])
        · have hq : rquoted s = rqL s (s.size - 2) 1 0 := by rw [rquoted, if_neg (by omega), if_pos h0, if_pos h1, if_pos hb]
          refine Pw.of TP [] ?_
          conv => whnf
          refine Pw.lp (σ := Nat × Nat × Nat) [0] (fun x => [(4, vI .i64 x.2.1), (3, vI .i64 x.2.2)]) (fun x => rquoted s = rqL s x.1 x.2.1 x.2.2 ∧ x.2.1 + x.1 = s.size - 1 ∧ x.2.2 ≤ x.2.1) (fun x => x.1) (s.size - 2, 1, 0) ⟨rfl, rfl, trivial⟩ ⟨hq, by simp only; omega, by simp only; omega⟩ fun x hx => Pw.of TP [] ?_
          obtain ⟨f, k, n⟩ := x
          obtain ⟨h2, h3, h4⟩ := hx
          simp only at h2 h3 h4 ⊢
          conv => whnf
          rw [w1]
          have e2 : ((n : Int).tmod 2) = ((n % 2 : Nat) : Int) := by rw [Int.tmod_eq_emod_of_nonneg (by omega)]; rfl
          repeat' (first | (refine ⟨fun h => ?_, fun h => ?_⟩ <;> conv => whnf) | fail)
          · obtain ⟨f, rfl⟩ : ∃ g, f = g + 1 := ⟨f - 1, by omega⟩
            rw [rqL] at h2
            have hk : s.size ≤ Big := hs
            unfold Big at hk
            refine ⟨by omega, by omega, ?_⟩
            conv => whnf
            repeat' (first | (refine ⟨fun h => ?_, fun h => ?_⟩ <;> conv => whnf) | fail)
            · refine ⟨by decide, ?_⟩
              conv => whnf
              rw [e2]
              rw [if_neg ‹_›] at h2
              repeat' (first | (refine ⟨fun h => ?_, fun h => ?_⟩ <;> conv => whnf) | fail)
              · (refine Fin.old (congrArg vB ?_) (.refl _); rw [h2, if_pos (by omega)])
              · rw [if_neg (by omega)] at h2
                exact ⟨⟨rfl, trivial⟩, (f, k + 1, n), ⟨congrArg (fun n => some (vI .i64 n)) (wrap_id (by omega) (by omega)), rfl, trivial⟩, .refl _, ⟨h2, by simp only; omega, by simp only; omega⟩, by simp⟩
            · rw [if_pos (Classical.not_not.1 ‹_›)] at h2
              exact ⟨⟨rfl, trivial⟩, (f, k + 1, n + 1), ⟨congrArg (fun n => some (vI .i64 n)) (wrap_id (by omega) (by omega)), congrArg (fun n => some (vI .i64 n)) (wrap_id (by omega) (by omega)), trivial⟩, .refl _, ⟨h2, by simp only; omega, by simp only; omega⟩, by simp⟩
          · obtain rfl : f = 0 := by omega
            refine ⟨by decide, ?_⟩
            conv => whnf
            rw [e2]
            repeat' (first | (refine ⟨fun h => ?_, fun h => ?_⟩ <;> conv => whnf) | fail)
            · (refine Fin.old (congrArg vB ?_) (.refl _); rw [h2, rqL]; exact (decide_eq_true (by omega)).symm)
            · (refine Fin.old (congrArg vB ?_) (.refl _); rw [h2, rqL]; exact (decide_eq_false (by omega)).symm)
end Go.Proofs.YtbmgenifdlgbmaaGreat.D
namespace Go.Proofs.YtbmgenifdlgbmaaGreat.D
set_option linter.unusedVariables false
set_option linter.unusedSimpArgs false
open Go Go.Proofs.YtbmgenifdlgbmaaGreat.D.Pm
set_option maxRecDepth 4000
def kw1 (s : ByteArray) : Bool := decide (s.size ≤ 12) && (allB (s.extract 0 1) 0 (memB smalls) && allB s 1 (memB wordS))
def kw2 (s : ByteArray) : Bool := decide (s.size ≤ 16) && (allB (s.extract 0 1) 0 (memB capitals) && allB s 1 (memB keyS))
def kw3 (s : ByteArray) : Bool := decide (s.size ≤ 19) && (allB s 0 (memB digitS) && (decide (s = ⟨#[48]⟩) || !decide (by_ s 0 = 48)))
def kw5 (s : ByteArray) : Bool := decide (s.size = 2) && (decide (by_ s 0 = 36) && (decide (49 ≤ by_ s 1) && decide (by_ s 1 ≤ 54)))
def rkind (s : ByteArray) : Nat := if s = ⟨#[]⟩ then 7 else if kw1 s = true then 1 else if kw2 s = true then 2 else if kw3 s = true then 3 else if rquoted s = true then 4 else if kw5 s = true then 5 else if rsign s = true then 6 else 0
theorem size_ext (s : ByteArray) (hs : s.size ≤ Big) (a b : Nat) : (s.extract a b).size ≤ Big := by
  rw [ByteArray.size_extract]; omega
theorem rkind_is (s : ByteArray) (hs : s.size ≤ Big) : Is Tryz.prog 80 [vS s] (vI .i64 (rkind s)) := by
  have x1 := size_ext s hs 0 1
  refine Is.of TP Tryz.func80 rfl rfl (Nat.le_of_ble_eq_true rfl) fun st => Pw.of TP [3] ?_
  conv => whnf
  repeat' (first | (refine ⟨fun h => ?_, fun h => ?_⟩ <;> conv => whnf) | fail)
  · exact Fin.old (congrArg (vI .i64) (by rw [rkind, if_pos ‹_›]; rfl)) (.refl _)
  have hne : ¬ s = ⟨#[]⟩ := ‹_›
  have h0 : 0 < s.size := by
    rcases Nat.eq_zero_or_pos s.size with h0 | h0
    · have e : s = ByteArray.empty := by simpa using h0
      exact absurd e ‹_›
    · exact h0
  refine Pw.cut (τ := Bool) [0] (fun b => [(6, vB b)]) (fun _ => st) (fun b => kw1 s = b) (Pw.of TP [] ?_) fun b1 h1 => Pw.of TP [5] ?_
  · conv => whnf
    repeat' (first | (refine ⟨fun h => ?_, fun h => ?_⟩ <;> conv => whnf) | (refine Is.callB (all_is _ x1 0 (by decide) smalls (by decide)) fun b hb => ?_; cases b <;> conv => whnf) | (refine Is.callB (all_is s hs 1 (by decide) wordS (by decide)) fun b hb => ?_; cases b <;> conv => whnf) | fail)
    · refine ⟨by omega, by omega, by omega, ?_⟩
      conv => whnf
      repeat' (first | (refine ⟨fun h => ?_, fun h => ?_⟩ <;> conv => whnf) | (refine Is.callB (all_is _ x1 0 (by decide) smalls (by decide)) fun b hb => ?_; cases b <;> conv => whnf) | (refine Is.callB (all_is s hs 1 (by decide) wordS (by decide)) fun b hb => ?_; cases b <;> conv => whnf) | fail)
      all_goals exact ⟨⟨rfl, trivial⟩, _, ⟨rfl, trivial⟩, .refl _, by simp [kw1, *] <;> omega⟩
    · exact ⟨⟨rfl, trivial⟩, _, ⟨rfl, trivial⟩, .refl _, by simp [kw1] <;> omega⟩
  conv => whnf
  cases b1 <;> conv => whnf
  rotate_left
  · exact Fin.old (congrArg (vI .i64) (by rw [rkind, if_neg hne, if_pos h1]; rfl)) (.refl _)
  refine Pw.cut (τ := Bool) [0] (fun b => [(19, vB b)]) (fun _ => st) (fun b => kw2 s = b) (Pw.of TP [] ?_) fun b2 h2 => Pw.of TP [7] ?_
  · conv => whnf
    repeat' (first | (refine ⟨fun h => ?_, fun h => ?_⟩ <;> conv => whnf) | (refine Is.callB (all_is _ x1 0 (by decide) capitals (by decide)) fun b hb => ?_; cases b <;> conv => whnf) | (refine Is.callB (all_is s hs 1 (by decide) keyS (by decide)) fun b hb => ?_; cases b <;> conv => whnf) | fail)
    · refine ⟨by omega, by omega, by omega, ?_⟩
      conv => whnf
      repeat' (first | (refine ⟨fun h => ?_, fun h => ?_⟩ <;> conv => whnf) | (refine Is.callB (all_is _ x1 0 (by decide) capitals (by decide)) fun b hb => ?_; cases b <;> conv => whnf) | (refine Is.callB (all_is s hs 1 (by decide) keyS (by decide)) fun b hb => ?_; cases b <;> conv => whnf) | fail)
      all_goals exact ⟨⟨rfl, trivial⟩, _, ⟨rfl, trivial⟩, .refl _, by simp [kw2, *] <;> omega⟩
    · exact ⟨⟨rfl, trivial⟩, _, ⟨rfl, trivial⟩, .refl _, by simp [kw2] <;> omega⟩
  conv => whnf
  cases b2 <;> conv => whnf
  rotate_left
  · exact Fin.old (congrArg (vI .i64) (by rw [rkind, if_neg hne, if_neg (by simp [h1]), if_pos h2]; rfl)) (.refl _)
  refine Pw.cut (τ := Bool) [0] (fun b => [(32, vB b)]) (fun _ => st) (fun b => kw3 s = b) (Pw.of TP [] ?_) fun b3 h3 => Pw.of TP [9] ?_
  · conv => whnf
    repeat' (first | (refine ⟨fun h => ?_, fun h => ?_⟩ <;> conv => whnf) | (refine Is.callB (all_is s hs 0 (by decide) digitS (by decide)) fun b hb => ?_; cases b <;> conv => whnf) | fail)
    · exact ⟨⟨rfl, trivial⟩, _, ⟨rfl, trivial⟩, .refl _, by simp [kw3, *] <;> omega⟩
    · exact ⟨⟨rfl, trivial⟩, _, ⟨rfl, trivial⟩, .refl _, by unfold kw3; rw [decide_eq_true (show s.size ≤ 19 by omega), hb, decide_eq_true ‹s = _›]; rfl⟩
    · refine ⟨by omega, by omega, ?_⟩
      conv => whnf
      repeat' (first | (refine ⟨fun h => ?_, fun h => ?_⟩ <;> conv => whnf) | fail)
      · exact ⟨⟨rfl, trivial⟩, _, ⟨rfl, trivial⟩, .refl _, by simp [kw3, *] <;> omega⟩
      · exact ⟨⟨rfl, trivial⟩, _, ⟨rfl, trivial⟩, .refl _, by have h9 := Classical.not_not.1 ‹¬ ¬ by_ s 0 = 48›; simp [kw3, *]⟩
    · exact ⟨⟨rfl, trivial⟩, _, ⟨rfl, trivial⟩, .refl _, by simp [kw3, *] <;> omega⟩
  conv => whnf
  cases b3 <;> conv => whnf
  rotate_left
  · exact Fin.old (congrArg (vI .i64) (by rw [rkind, if_neg hne, if_neg (by simp [h1]), if_neg (by simp [h2]), if_pos h3]; rfl)) (.refl _)
  refine Pw.of TP [11] ?_
  conv => whnf
  refine Is.callB (rquoted_is s hs) fun b4 h4 => ?_
  cases b4 <;> conv => whnf
  rotate_left
  · exact Fin.old (congrArg (vI .i64) (by rw [rkind, if_neg hne, if_neg (by simp [h1]), if_neg (by simp [h2]), if_neg (by simp [h3]), if_pos h4]; rfl)) (.refl _)
  refine Pw.cut (τ := Bool) [0] (fun b => [(52, vB b)]) (fun _ => st) (fun b => kw5 s = b) (Pw.of TP [] ?_) fun b5 h5 => Pw.of TP [] ?_
  · conv => whnf
    repeat' (first | (refine ⟨fun h => ?_, fun h => ?_⟩ <;> conv => whnf) | fail)
    · refine ⟨by omega, by omega, ?_⟩
      conv => whnf
      repeat' (first | (refine ⟨fun h => ?_, fun h => ?_⟩ <;> conv => whnf) | fail)
      · refine ⟨by omega, by omega, ?_⟩
        conv => whnf
        repeat' (first | (refine ⟨fun h => ?_, fun h => ?_⟩ <;> conv => whnf) | fail)
        · refine ⟨by omega, by omega, ?_⟩
          conv => whnf
          repeat' (first | (refine ⟨fun h => ?_, fun h => ?_⟩ <;> conv => whnf) | fail)
          · exact ⟨⟨rfl, trivial⟩, _, ⟨rfl, trivial⟩, .refl _, by simp [kw5, *] <;> omega⟩
          · exact ⟨⟨rfl, trivial⟩, _, ⟨rfl, trivial⟩, .refl _, by simp [kw5, *] <;> omega⟩
        · exact ⟨⟨rfl, trivial⟩, _, ⟨rfl, trivial⟩, .refl _, by simp [kw5, *]⟩
      · exact ⟨⟨rfl, trivial⟩, _, ⟨rfl, trivial⟩, .refl _, by simp [kw5, *]⟩
    · exact ⟨⟨rfl, trivial⟩, _, ⟨rfl, trivial⟩, .refl _, by simp [kw5, *] <;> omega⟩
  conv => whnf
  cases b5 <;> conv => whnf
  rotate_left
  · exact Fin.old (congrArg (vI .i64) (by rw [rkind, if_neg hne, if_neg (by simp [h1]), if_neg (by simp [h2]), if_neg (by simp [h3]), if_neg (by simp [h4]), if_pos h5]; rfl)) (.refl _)
  refine Is.callB (rsign_is s) fun b6 h6 => ?_
  cases b6 <;> conv => whnf
  · exact Fin.old (congrArg (vI .i64) (by rw [rkind, if_neg hne, if_neg (by simp [h1]), if_neg (by simp [h2]), if_neg (by simp [h3]), if_neg (by simp [h4]), if_neg (by simp [h5]), if_neg (by simp [h6])]; rfl)) (.refl _)
  · exact Fin.old (congrArg (vI .i64) (by rw [rkind, if_neg hne, if_neg (by simp [h1]), if_neg (by simp [h2]), if_neg (by simp [h3]), if_neg (by simp [h4]), if_neg (by simp [h5]), if_pos h6]; rfl)) (.refl _)
theorem risName_is (s : ByteArray) (hs : s.size ≤ Big) : Is Tryz.prog 55 [vS s] (vB (decide (rkind s = 1))) := by
  refine Is.of TP Tryz.func55 rfl rfl (Nat.le_of_ble_eq_true rfl) fun st => Pw.of TP [] ?_
  conv => whnf
  refine (rkind_is s hs).call ?_
  conv => whnf
  repeat' (first | (refine ⟨fun h => ?_, fun h => ?_⟩ <;> conv => whnf) | fail)
  · (refine Fin.old (congrArg vB ?_) (.refl _); simp; omega)
  · (refine Fin.old (congrArg vB ?_) (.refl _); simp; omega)
end Go.Proofs.YtbmgenifdlgbmaaGreat.D
