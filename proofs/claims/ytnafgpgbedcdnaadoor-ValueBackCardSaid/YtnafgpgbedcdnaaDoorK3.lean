/- Words and contracts: a plain machine over the model, and what the functions that a law reaches come to, each for every input that its theorem names. -/
import Derived.Test.YtnafgpgbedcdnaaDoorK0
import Derived.Test.YtnafgpgbedcdnaaDoorK1
import Derived.Test.YtnafgpgbedcdnaaDoorV4
import Derived.Test.YtnafgpgbedcdnaaDoorV3
import Derived.WalkKit
import Derived.Lib.Walk
import Derived.Test.YtnafgpgbedcdnaaDoorV2
namespace Go.Proofs.YtnafgpgbedcdnaaDoor.D
set_option linter.unusedVariables false
set_option linter.unusedSimpArgs false
open Go Go.Proofs.YtnafgpgbedcdnaaDoor.D.Pm Go.RowKit
theorem vs_of {G : Gh} {w : World} {l : List Value} {vs : Array Value} (h : RVs G w (l.map fun x => .c (.v x)) vs) : vs = ⟨l⟩ := by
  obtain ⟨m⟩ := vs
  refine congrArg Array.mk (List.ext_getElem? fun j => ?_)
  have hl : m.length = l.length := by have := h.1; simpa using this
  by_cases hj : j < l.length
  · have hm : j < m.length := by omega
    have := (h.2 j (.c (.v l[j])) m[j] (by rw [List.getElem?_map, List.getElem?_eq_getElem hj]; rfl) (by simp [hm])).cel
    rw [List.getElem?_eq_getElem hj, List.getElem?_eq_getElem hm]
    generalize m[j] = x at this
    generalize l[j] = y at this
    cases this
    rfl
  · rw [List.getElem?_eq_none (by omega), List.getElem?_eq_none (by omega)]
/-- what leaves the world as it was -/
theorem Is.same {f : Nat} {fn : Func} {c : Code} {l : List Value} {x : Value} (hf : Tryd.prog.funcs[f]? = some fn) (hb : fn.body = some c) (hn : (fn.name == "runtime.NumGoroutine") = false) (hx : x.oneCell' = true)
    (h : ∀ w, Calls Tryd.prog f ⟨l⟩ w fun e w' => e = .returned x ∧ w' = w) : Is Tryd.prog f (l.map fun x => .c (.v x)) (.c (.v x)) := fun st =>
  ⟨⟨fn, c, hf, hb, hn⟩, fun G w vs hI hr => by
    rw [vs_of hr]
    refine (h w).mono fun e w' ⟨he, hw⟩ => ?_
    subst hw
    exact ⟨G, _, st, x, ⟨rfl, rfl⟩, he, .refl _ _, hI, RV.one x hx⟩⟩
/-- the store says what the variable bytealg.MaxLen is -/
abbrev MaxL (st : Sto) (id : Nat) (m : Int) : Prop := st id = some (.bx [.ab (glA id 0 (.int .i64 m) rfl)])
theorem MaxL.cell {G : Gh} {w : World} {st : Sto} {id : Nat} {m : Int} (h : MaxL st id m) (hI : Inv G w st) : w.cell? ⟨0, 0, none⟩ = some (.int .i64 m) := by
  obtain ⟨cs, e, h1, h2⟩ := hI.glob h
  have := cell_of h1 (o := 0)
  rw [h2] at this
  exact this
theorem idxB_is (s : ByteArray) (c : Int) : Is Tryd.prog 27 [vS s, vI .u8 c] (vI .i64 (Lib.indexByte s.data.toList c.toNat.toUInt8)) :=
  Is.same (l := [.string s, .int .u8 c]) Tryd.func27 rfl rfl rfl fun w => Tryd.strings_IndexByte s c w
theorem cont1_is (s : ByteArray) (c : UInt8) : Is Tryd.prog 25 [vS s, vS ⟨#[c]⟩] (vB (decide (0 ≤ Lib.indexByte s.data.toList c))) :=
  Is.same (l := [.string s, .string ⟨#[c]⟩]) Tryd.func25 rfl rfl rfl fun w => Tryd.strings_Contains_one s c w
theorem count1_is (s : ByteArray) (c : UInt8) : Is Tryd.prog 26 [vS s, vS ⟨#[c]⟩] (vI .i64 (Lib.countByte s.data.toList c)) :=
  Is.same (l := [.string s, .string ⟨#[c]⟩]) Tryd.func26 rfl rfl rfl fun w => Tryd.strings_Count_one s c w
theorem hpre_is (s p : ByteArray) : Is Tryd.prog 13 [vS s, vS p] (vB (Lib.hasPrefix s.data.toList p.data.toList)) :=
  Is.same (l := [.string s, .string p]) Tryd.func13 rfl rfl rfl fun w => Tryd.strings_HasPrefix s p w
theorem repl_does {st : Sto} {id : Nat} {m : Int} (hm : MaxL st id m) (s old new : ByteArray) (hs : s.size < 4294967281) (h1 : 1 ≤ old.size) (hl : s.size + Lib.countB s old * new.size ≤ 140737488355328) :
    Does Tryd.prog 24 [vS s, vS old, vS new] st fun r s' => r = vS ⟨(Lib.replaceAll s.data.toList old.data.toList new.data.toList).toArray⟩ ∧ s' = st :=
  ⟨⟨_, _, Tryd.func24, rfl, rfl⟩, fun G w vs hI hr => by
    rw [vs_of (l := [.string s, .string old, .string new]) hr]
    refine (Tryd.strings_ReplaceAll s old new m w hs (hm.cell hI) h1 hl).mono fun e w' ⟨he, hw⟩ => ?_
    obtain ⟨x, i⟩ := hI.below hw
    exact ⟨G, _, st, _, ⟨rfl, rfl⟩, he, x, i, RV.one _ rfl⟩⟩
end Go.Proofs.YtnafgpgbedcdnaaDoor.D
namespace Go.Proofs.YtnafgpgbedcdnaaDoor.D
set_option linter.unusedVariables false
set_option linter.unusedSimpArgs false
open Go Go.Proofs.YtnafgpgbedcdnaaDoor.D.Pm
set_option maxRecDepth 4000
/-- 'it''s', and what it says -/
abbrev tQ : ByteArray := ⟨#[39, 105, 116, 39, 39, 115, 39]⟩
abbrev tI : ByteArray := ⟨#[105, 116, 39, 39, 115]⟩
abbrev tV : ByteArray := ⟨#[105, 116, 39, 115]⟩
abbrev vV : Val := ⟨3, 0, tV⟩
theorem unqC_does {st : Sto} {id : Nat} {m : Int} (hm : MaxL st id m) : Does Tryd.prog 14 [vS tQ] st fun r s' => r = .t [.g (eV vV), vI .i64 0] ∧ s' = st := by
  have hp := plain_is tI (by unfold Big; decide)
  have e : plain tI = true := by kernel_rfl
  rw [e] at hp
  have hc := cont1_is ⟨#[105, 116, 115]⟩ 39
  have e2 : decide (0 ≤ Lib.indexByte (⟨#[105, 116, 115]⟩ : ByteArray).data.toList 39) = false := by kernel_rfl
  rw [e2] at hc
  have r1 : ∀ st, MaxL st id m → Does Tryd.prog 24 [vS tI, vS ⟨#[39, 39]⟩, vS ⟨#[]⟩] st fun r s' => r = vS ⟨#[105, 116, 115]⟩ ∧ s' = st := fun st hm => (repl_does hm tI ⟨#[39, 39]⟩ ⟨#[]⟩ (by decide) (by decide) (Nat.le_of_ble_eq_true (by kernel_rfl))).mono fun r s h => ⟨h.1.trans (by kernel_rfl), h.2⟩
  have r2 : ∀ st, MaxL st id m → Does Tryd.prog 24 [vS tI, vS ⟨#[39, 39]⟩, vS ⟨#[39]⟩] st fun r s' => r = vS tV ∧ s' = st := fun st hm => (repl_does hm tI ⟨#[39, 39]⟩ ⟨#[39]⟩ (by decide) (by decide) (Nat.le_of_ble_eq_true (by kernel_rfl))).mono fun r s h => ⟨h.1.trans (by kernel_rfl), h.2⟩
  refine Does.of TP Tryd.func14 rfl rfl (Nat.le_of_ble_eq_true rfl) (Pw.of TP [] ?_)
  conv => whnf
  intro ib hb
  conv => whnf
  refine ⟨fun h => absurd h (by decide), fun _ => ?_⟩
  conv => whnf
  refine ⟨by decide, by decide, ?_⟩
  conv => whnf
  refine ⟨fun h => absurd (by decide) h, fun _ => ?_⟩
  conv => whnf
  refine ⟨by decide, by decide, ?_⟩
  conv => whnf
  refine ⟨fun h => absurd (by decide) h, fun _ => ?_⟩
  conv => whnf
  refine ⟨by decide, by decide, by decide, ?_⟩
  conv => whnf
  have ex : tQ.extract (Int.toNat 1) (IntKind.i64.wrap ((tQ.size : Int) - 1)).toNat = tI := by kernel_rfl
  rw [ex]
  refine (r1 _ (upd_old hb hm)).mono fun r s1 h1 => ?_
  obtain ⟨rfl, rfl⟩ := h1
  conv => whnf
  refine hc.call ?_
  conv => whnf
  refine hp.call ?_
  conv => whnf
  refine (r2 _ (upd_old hb hm)).mono fun r s1 h1 => ?_
  obtain ⟨rfl, rfl⟩ := h1
  conv => whnf
  refine ⟨fun h => absurd h (by decide), fun _ => ?_⟩
  conv => whnf
  refine ⟨_, upd_same _ _ _, Nat.le_of_ble_eq_true rfl, ?_⟩
  conv => whnf
  refine ⟨_, upd_same _ _ _, ?_⟩
  conv => whnf
  exact Fin.same rfl (((Le.refl st).up2 hb).up2 hb) ⟨rfl, rfl⟩
theorem readC_does {st : Sto} {id : Nat} {m : Int} (hm : MaxL st id m) : Does Tryd.prog 7 [vS tQ] st fun r s' => r = .t [.g (eV vV), vI .i64 0] ∧ s' = st := by
  have hh := hpre_is tQ ⟨#[39]⟩
  have e : Lib.hasPrefix tQ.data.toList (⟨#[39]⟩ : ByteArray).data.toList = true := by kernel_rfl
  rw [e] at hh
  refine Does.of TP Tryd.func7 rfl rfl (Nat.le_of_ble_eq_true rfl) (Pw.of TP [] ?_)
  conv => whnf
  intro ib hb
  conv => whnf
  refine ⟨fun h => absurd h (by decide), fun _ => ?_⟩
  conv => whnf
  refine ⟨fun h => absurd h (by decide), fun _ => ?_⟩
  conv => whnf
  refine ⟨fun h => absurd h (by decide), fun _ => ?_⟩
  conv => whnf
  refine hh.call ?_
  conv => whnf
  refine (unqC_does (upd_old hb hm)).mono fun r s1 h1 => ?_
  obtain ⟨rfl, rfl⟩ := h1
  conv => whnf
  refine ⟨_, upd_same _ _ _, Nat.le_of_ble_eq_true rfl, ?_⟩
  conv => whnf
  refine ⟨_, upd_same _ _ _, ?_⟩
  conv => whnf
  exact Fin.same rfl (((Le.refl st).up2 hb).up2 hb) ⟨rfl, rfl⟩
theorem quotC_is : Is Tryd.prog 17 [vS tV] (vS tQ) := by
  have hc := count1_is tV 39
  have e : (Lib.countByte tV.data.toList 39 : Int) = 1 := by kernel_rfl
  rw [e] at hc
  refine Is.of TP Tryd.func17 rfl rfl (Nat.le_of_ble_eq_true rfl) fun st => Pw.of TP [1, 1000012, 1000022] ?_
  conv => whnf
  refine Pw.seq (Pw.regionX TP (sp := fun o env st K => OpOk Tryd.prog _ o env st K) (fun _ _ _ _ h => h) ?_)
  conv => whnf
  refine .inr ?_
  conv => whnf
  refine .inr ?_
  conv => whnf
  refine .inr ?_
  conv => whnf
  refine .inr ?_
  conv => whnf
  refine .inr ?_
  conv => whnf
  refine hc.call ?_
  conv => whnf
  refine .inr ?_
  conv => whnf
  refine .inl ⟨rfl, OpOk.make0 TP rfl rfl rfl rfl rfl rfl (by decide) (by decide) (by decide) (by decide) (by decide) fun id hid => ?_⟩
  conv => whnf
  refine .inr ?_
  conv => whnf
  refine Pw.of TP [1000022] ?_
  conv => whnf
  refine Grow.app (z := ⟨.i .u8, 1, 1, [.int .u8 0]⟩) (st0 := st) (rows := []) ⟨.upd hid, .inr ⟨id, rfl, upd_same _ _ _, hid⟩⟩ (by decide) (by decide) fun a1 st1 hg1 hk1 => ?_
  conv => whnf
  have hi1 := idxB_is tV 39
  have hi2 := idxB_is ⟨#[115]⟩ 39
  have e1 : Lib.indexByte tV.data.toList (39 : Int).toNat.toUInt8 = 2 := by kernel_rfl
  have e2 : Lib.indexByte (⟨#[115]⟩ : ByteArray).data.toList (39 : Int).toNat.toUInt8 = -1 := by kernel_rfl
  rw [e1] at hi1
  rw [e2] at hi2
  refine Pw.lpS (σ := ByteArray × AC × Sto) [] (fun x => [(0, vS x.1), (3, .c x.2.1)]) (fun x => x.2.2) (fun x => (x.1 = tV ∧ Grow st 1 x.2.2 x.2.1 (byc ⟨#[39]⟩)) ∨ (x.1 = ⟨#[115]⟩ ∧ Grow st 1 x.2.2 x.2.1 (byc ⟨#[39, 105, 116, 39, 39]⟩))) (fun x => x.1.size) (tV, a1, st1) ⟨rfl, rfl, trivial⟩ (.refl _) (.inl ⟨rfl, hg1⟩) fun x hg => Pw.of TP [1000022] ?_
  obtain ⟨t, a, y⟩ := x
  dsimp only at hg ⊢
  rcases hg with ⟨rfl, hg⟩ | ⟨rfl, hg⟩
  · conv => whnf
    refine hi1.call ?_
    conv => whnf
    refine ⟨fun h => absurd h (by decide), fun _ => ?_⟩
    conv => whnf
    refine ⟨rfl, by decide, by decide, by decide, by decide, by decide, fun ip hp => ?_⟩
    conv => whnf
    refine ⟨by decide, by decide, by decide, ?_⟩
    conv => whnf
    refine ⟨_, upd_same _ _ _, ?_⟩
    conv => whnf
    refine ⟨by decide, ?_⟩
    conv => whnf
    refine ⟨by decide, by decide, ⟨_, upd_same _ _ _⟩, ?_⟩
    conv => whnf
    refine ⟨_, _, _, upd_same _ _ _, rfl, Nat.le_of_ble_eq_true rfl, ?_⟩
    conv => whnf
    refine ⟨_, upd_same _ _ _, by decide, ?_⟩
    have hg2 : ∀ o1 o2 o3, Grow st 1 (upd (upd (upd y ip o1) ip o2) ip o3) a (byc ⟨#[39]⟩) := fun o1 o2 o3 => by
      refine ⟨fun i o hi => ?_, ?_⟩
      · have : i ≠ ip := fun e => by subst e; rw [hg.1 _ _ hi] at hp; cases hp
        rw [upd_ne _ this, upd_ne _ this, upd_ne _ this]; exact hg.1 _ _ hi
      · rcases hg.2 with h | ⟨i, h1, h2, h3⟩
        · exact .inl h
        · have : i ≠ ip := fun e => by subst e; rw [h2] at hp; cases hp
          exact .inr ⟨i, h1, by rw [upd_ne _ this, upd_ne _ this, upd_ne _ this]; exact h2, h3⟩
    refine Grow.app (z := ⟨.i .u8, 1, 1, [.int .u8 0]⟩) (hg2 _ _ _) (by decide) (by decide) fun a2 st2 hg3 hk2 => ?_
    conv => whnf
    refine ⟨by decide, by decide, by decide, ?_⟩
    conv => whnf
    exact ⟨trivial, (⟨#[115]⟩, a2, st2), ⟨rfl, rfl, trivial⟩, .refl _, .inr ⟨rfl, hg3⟩, by show 1 < 4; decide⟩
  · conv => whnf
    refine hi2.call ?_
    conv => whnf
    refine ⟨fun _ => ?_, fun h => absurd (by decide) h⟩
    conv => whnf
    refine Grow.app (z := ⟨.i .u8, 1, 1, [.int .u8 0]⟩) hg (by decide) (by decide) fun a2 st2 hg2 hk2 => ?_
    conv => whnf
    refine Grow.app (z := ⟨.i .u8, 1, 1, [.int .u8 0]⟩) hg2 (by decide) (by decide) fun a3 st3 hg3 hk3 => ?_
    rcases hg3.2 with ⟨_, h⟩ | ⟨i3, rfl, hs3, _⟩
    · exact absurd (congrArg List.length h) (by decide)
    conv => whnf
    refine ⟨_, tQ, hs3, by decide, rfl, ?_⟩
    conv => whnf
    exact Fin.old rfl hg3.1
end Go.Proofs.YtnafgpgbedcdnaaDoor.D
namespace Go.Proofs.YtnafgpgbedcdnaaDoor.D
set_option linter.unusedVariables false
set_option linter.unusedSimpArgs false
open Go Go.Proofs.YtnafgpgbedcdnaaDoor.D.Pm
set_option maxRecDepth 4000
def vless (a b : Val) : Bool := decide (vorder a b < 0)
theorem vless_is (a b : Val) : Is Tryd.prog 11 [.g (eV a), .g (eV b)] (vB (vless a b)) := by
  refine Is.of TP Tryd.func11 rfl rfl (Nat.le_of_ble_eq_true rfl) fun st => Pw.of TP [] ?_
  conv => whnf
  refine Is.callI (vorder_is a b) fun r hr => ?_
  conv => whnf
  repeat' (first | (refine ⟨fun h => ?_, fun h => ?_⟩ <;> conv => whnf) | fail)
  · exact Fin.old (congrArg vB (by unfold vless; rw [hr]; exact (decide_eq_true ‹_›).symm)) (.refl _)
  · exact Fin.old (congrArg vB (by unfold vless; rw [hr]; exact (decide_eq_false ‹_›).symm)) (.refl _)
theorem showC_is : Is Tryd.prog 8 [.g (eV vV)] (vS tQ) := by
  refine Is.of TP Tryd.func8 rfl rfl (Nat.le_of_ble_eq_true rfl) fun st => Pw.of TP [] ?_
  conv => whnf
  refine ⟨fun h => absurd h (by decide), fun _ => ?_⟩
  conv => whnf
  refine ⟨fun h => absurd h (by decide), fun _ => ?_⟩
  conv => whnf
  refine ⟨fun h => absurd h (by decide), fun _ => ?_⟩
  conv => whnf
  refine ⟨fun _ => ?_, fun h => absurd rfl h⟩
  conv => whnf
  refine quotC_is.call ?_
  conv => whnf
  exact Fin.old rfl (.refl _)
theorem works03_does {st : Sto} {id : Nat} {m : Int} (hm : MaxL st id m) : Does Tryd.prog 6 [] st fun r s' => r = vB true ∧ s' = st := by
  have hl := vless_is ⟨0, 0, ⟨#[]⟩⟩ vV
  have e : vless ⟨0, 0, ⟨#[]⟩⟩ vV = true := by kernel_rfl
  rw [e] at hl
  refine Does.of TP Tryd.func6 rfl rfl (Nat.le_of_ble_eq_true rfl) (Pw.of TP [] ?_)
  conv => whnf
  refine (readC_does hm).mono fun r s1 h1 => ?_
  obtain ⟨rfl, rfl⟩ := h1
  conv => whnf
  refine ⟨fun _ => ?_, fun h => absurd rfl h⟩
  conv => whnf
  refine ⟨fun _ => ?_, fun h => absurd ⟨rfl, rfl, rfl, trivial⟩ h⟩
  conv => whnf
  refine showC_is.call ?_
  conv => whnf
  refine ⟨fun _ => ?_, fun h => absurd rfl h⟩
  conv => whnf
  refine hl.call ?_
  conv => whnf
  exact Fin.same rfl (.refl _) ⟨rfl, rfl⟩
end Go.Proofs.YtnafgpgbedcdnaaDoor.D
namespace Go.Proofs.YtnafgpgbedcdnaaDoor.D
set_option linter.unusedVariables false
set_option linter.unusedSimpArgs false
open Go Go.Proofs.YtnafgpgbedcdnaaDoor.D.Pm
set_option maxRecDepth 4000
def longV (v : Val) : Bool := decide (200 < v.s.size)
theorem long_is (l : List Val) (hl : l.length ≤ Big) : Is Tryd.prog 5 [.c (.sl 3 (l.map eV))] (vB (l.any longV)) := by
  refine Is.of TP Tryd.func5 rfl rfl (Nat.le_of_ble_eq_true rfl) fun st => Pw.of TP [] ?_
  conv => whnf
  refine Pw.rng (τ := Unit) 3 l.length hl [0] (fun _ => []) (fun i _ => ∀ v ∈ l.take i, longV v = false) () rfl ⟨⟩ (by simp) fun i _ hi hx => Pw.of TP [] ?_
  conv => whnf
  refine ⟨fun h => ?_, fun h => ?_⟩ <;> conv => whnf
  · have hi' := lt_map ‹_›
    have k1 := fun F => ixm (f := eV) (F := F) hi'
    have hs : longV l[i] = false → ∀ v ∈ l.take (i + 1), longV v = false := fun h v hv => by
      rw [List.take_add_one, List.getElem?_eq_getElem hi'] at hv
      rcases List.mem_append.1 hv with hv | hv
      · exact hx v hv
      · simp at hv; rw [hv]; exact h
    have ha : longV l[i] = true → l.any longV = true := fun h => List.any_eq_true.2 ⟨_, List.getElem_mem hi', h⟩
    generalize l[i] = v at k1 hs ha
    refine k1 _ ?_
    conv => whnf
    refine ⟨fun h => ?_, fun h => ?_⟩ <;> conv => whnf
    · exact Fin.old (congrArg vB (ha (decide_eq_true (by omega))).symm) (.refl _)
    · exact ⟨hi', rfl, ⟨rfl, trivial⟩, (), trivial, .refl _, hs (decide_eq_false (by omega))⟩
  · obtain rfl := nlt_map ‹_› hi
    refine Fin.old (congrArg vB ?_) (.refl _)
    symm
    rw [List.any_eq_false]
    intro v hv
    simp [hx v (by simpa using hv)]
end Go.Proofs.YtnafgpgbedcdnaaDoor.D
namespace Go.Proofs.YtnafgpgbedcdnaaDoor.D
set_option linter.unusedVariables false
set_option linter.unusedSimpArgs false
open Go Go.Proofs.YtnafgpgbedcdnaaDoor.D.Pm
set_option maxRecDepth 4000
theorem bl_turn : ∀ s t : List UInt8, Op.bytesLess t s = !(Op.bytesLess s t || decide (s = t))
  | [], [] => by simp [Op.bytesLess]
  | [], b :: t => by simp [Op.bytesLess]
  | a :: s, [] => by simp [Op.bytesLess]
  | a :: s, b :: t => by
    have ih := bl_turn s t
    simp only [Op.bytesLess]
    by_cases h : a = b
    · subst h
      rw [ih]
      simp
    · have h2 : ¬ b = a := fun e => h e.symm
      have h3 : ¬ a.toNat = b.toNat := fun e => h (UInt8.toNat_inj.1 e)
      have e1 : (a == b) = false := by simpa using h
      have e2 : (b == a) = false := by simpa using h2
      rw [e1, e2]
      simp only [Bool.false_and, Bool.or_false, List.cons.injEq, h, false_and, decide_false]
      rw [Bool.eq_iff_iff]
      simp [UInt8.lt_iff_toNat_lt]
      omega
theorem bl_ba (a b : ByteArray) : Op.bytesLess b.toList a.toList = !(Op.bytesLess a.toList b.toList || decide (a = b)) := by
  rw [bl_turn]
  have := bytes_beq a b
  have e : decide (a.toList = b.toList) = decide (a = b) := by rw [← this, Bool.eq_iff_iff]; simp
  rw [e]
def vls (a b : Val) : Bool := if ¬ a.k = b.k then decide (a.k < b.k) else if ¬ a.n = b.n then decide (a.n < b.n) else Op.bytesLess a.s.toList b.s.toList
theorem vorder_cases (a b : Val) : vorder a b = if ¬ a.k = b.k then (if a.k < b.k then -1 else 1) else if ¬ a.n = b.n then (if a.n < b.n then -1 else 1) else cmpS a.s b.s := by
  unfold vorder firstN
  have hI : ∀ x y : Int, (cmpI x y = 0 ↔ x = y) ∧ (¬ x = y → cmpI x y = if x < y then -1 else 1) := fun x y => by
    unfold cmpI
    constructor
    · repeat' split
      all_goals omega
    · intro h
      repeat' split
      all_goals omega
  by_cases h1 : a.k = b.k
  · rw [if_neg (by simpa using h1)]
    have e1 := (hI a.k b.k).1.2 h1
    by_cases h2 : a.n = b.n
    · rw [if_neg (by simpa using h2)]
      have e2 := (hI a.n b.n).1.2 h2
      rw [e1, e2]
      by_cases h3 : cmpS a.s b.s = 0
      · simp [List.find?, h3]
      · simp [List.find?, h3]
    · rw [if_pos h2]
      have e2 : ¬ cmpI a.n b.n = 0 := fun e => h2 ((hI a.n b.n).1.1 e)
      rw [e1, ← (hI a.n b.n).2 h2]
      simp [List.find?, e2]
  · rw [if_pos h1]
    have e1 : ¬ cmpI a.k b.k = 0 := fun e => h1 ((hI a.k b.k).1.1 e)
    rw [← (hI a.k b.k).2 h1]
    simp [List.find?, e1]
theorem cmpS_lt (a b : ByteArray) : (cmpS a b < 0 ↔ Op.bytesLess a.toList b.toList = true) ∧ (0 < cmpS a b ↔ Op.bytesLess b.toList a.toList = true) ∧ (cmpS a b = 0 ↔ a = b) := by
  have h := bl_ba a b
  have h' := bl_ba b a
  unfold cmpS
  rw [← h]
  cases e1 : Op.bytesLess a.toList b.toList <;> cases e2 : Op.bytesLess b.toList a.toList <;> rw [e1, e2] at h h'
  · have : a = b := by simpa using h
    simp [this]
  · have : ¬ a = b := by simpa using h
    simp [this]
  · have : ¬ a = b := fun e => by subst e; rw [e1] at e2; cases e2
    simp [this]
  · simp at h
theorem vorder_ok (a b : Val) : (vorder a b < 0 ↔ vls a b = true) ∧ (0 < vorder a b ↔ vls b a = true) ∧ (vorder a b = 0 ↔ (a.k = b.k ∧ a.n = b.n ∧ a.s = b.s)) := by
  rw [vorder_cases]
  unfold vls
  obtain ⟨h1, h2, h3⟩ := cmpS_lt a.s b.s
  by_cases k : a.k = b.k
  · by_cases n : a.n = b.n
    · simp only [k, n, not_true_eq_false, if_false]
      exact ⟨h1, h2, by rw [h3]; simp⟩
    · have n' : ¬ b.n = a.n := fun e => n e.symm
      simp only [k, n, n', not_true_eq_false, not_false_eq_true, if_false, if_true]
      refine ⟨?_, ?_, ?_⟩ <;> split <;> simp <;> omega
  · have k' : ¬ b.k = a.k := fun e => k e.symm
    simp only [k, k', not_true_eq_false, not_false_eq_true, if_false, if_true]
    refine ⟨?_, ?_, ?_⟩ <;> split <;> simp <;> omega
theorem bl_trans : ∀ s t u : List UInt8, Op.bytesLess s t = true → Op.bytesLess t u = true → Op.bytesLess s u = true
  | _, [], _, h, _ => by cases ‹List UInt8› <;> simp [Op.bytesLess] at h
  | [], _ :: _, [], _, h => by simp [Op.bytesLess] at h
  | [], _ :: _, _ :: _, _, _ => by simp [Op.bytesLess]
  | _ :: _, _ :: _, [], _, h => by simp [Op.bytesLess] at h
  | a :: s, b :: t, c :: u, h1, h2 => by
    have ih := bl_trans s t u
    simp only [Op.bytesLess, Bool.or_eq_true, Bool.and_eq_true, decide_eq_true_eq, beq_iff_eq] at h1 h2 ⊢
    rcases h1 with h1 | ⟨rfl, h1⟩
    · rcases h2 with h2 | ⟨rfl, h2⟩
      · exact .inl (by simp only [UInt8.lt_iff_toNat_lt] at *; omega)
      · exact .inl h1
    · rcases h2 with h2 | ⟨rfl, h2⟩
      · exact .inl h2
      · exact .inr ⟨rfl, ih h1 h2⟩
theorem vorder_val (a b : Val) : vorder a b = -1 ∨ vorder a b = 0 ∨ vorder a b = 1 := by
  rw [vorder_cases]
  unfold cmpS
  repeat' split
  all_goals omega
theorem vorder_neg (a b : Val) : vorder a b = -vorder b a := by
  obtain ⟨h1, h2, h3⟩ := vorder_ok a b
  obtain ⟨k1, k2, k3⟩ := vorder_ok b a
  have e : (vorder a b < 0 ↔ 0 < vorder b a) := h1.trans k2.symm
  have e' : (0 < vorder a b ↔ vorder b a < 0) := h2.trans k1.symm
  have x1 := vorder_val a b
  have x2 := vorder_val b a
  clear h1 h2 h3 k1 k2 k3
  generalize vorder a b = p at *
  generalize vorder b a = q at *
  omega
theorem vls_iff (a b : Val) : vls a b = true ↔ a.k < b.k ∨ (a.k = b.k ∧ (a.n < b.n ∨ (a.n = b.n ∧ Op.bytesLess a.s.toList b.s.toList = true))) := by
  unfold vls
  by_cases k : a.k = b.k
  · by_cases n : a.n = b.n
    · rw [if_neg (by simpa using k), if_neg (by simpa using n)]
      exact ⟨fun h => .inr ⟨k, .inr ⟨n, h⟩⟩, fun h => by
        rcases h with h | ⟨_, h | ⟨_, h⟩⟩
        · omega
        · omega
        · exact h⟩
    · rw [if_neg (by simpa using k), if_pos n, decide_eq_true_eq]
      exact ⟨fun h => .inr ⟨k, .inl h⟩, fun h => by
        rcases h with h | ⟨_, h | ⟨e, _⟩⟩
        · omega
        · exact h
        · exact absurd e n⟩
  · rw [if_pos k, decide_eq_true_eq]
    exact ⟨fun h => .inl h, fun h => by
      rcases h with h | ⟨e, _⟩
      · exact h
      · exact absurd e k⟩
theorem vls_trans (a b c : Val) (h1 : vls a b = true) (h2 : vls b c = true) : vls a c = true := by
  rw [vls_iff] at *
  rcases h1 with h1 | ⟨e1, h1 | ⟨n1, h1⟩⟩ <;> rcases h2 with h2 | ⟨e2, h2 | ⟨n2, h2⟩⟩
  all_goals first | exact .inl (by omega) | exact .inr ⟨by omega, .inl (by omega)⟩ | exact .inr ⟨by omega, .inr ⟨by omega, bl_trans _ _ _ h1 h2⟩⟩
end Go.Proofs.YtnafgpgbedcdnaaDoor.D
namespace Go.Proofs.YtnafgpgbedcdnaaDoor.D
set_option linter.unusedVariables false
set_option linter.unusedSimpArgs false
open Go Go.Proofs.YtnafgpgbedcdnaaDoor.D.Pm
set_option maxRecDepth 4000
theorem vc3 (a b : Val) : ∃ x y z e : Int, vcompare 5 a b = (x, e) ∧ vcompare 3 a b = (y, e) ∧ vcompare 7 a b = (z, e) ∧
    ((x = 0 ∧ y = 0 ∧ z = 0 ∧ e = 11) ∨ (x = 2 ∧ y = 2 ∧ z = 2 ∧ e = 0) ∨ (x = 1 ∧ y = 0 ∧ z = 0 ∧ e = 0) ∨ (x = 0 ∧ y = 1 ∧ z = 0 ∧ e = 0) ∨ (x = 0 ∧ y = 0 ∧ z = 1 ∧ e = 0)) := by
  by_cases h1 : vknown a = false ∨ vknown b = false
  · exact ⟨0, 0, 0, 11, by unfold vcompare; rw [if_pos (.inr (.inr h1))], by unfold vcompare; rw [if_pos (.inr (.inr h1))], by unfold vcompare; rw [if_pos (.inr (.inr h1))], .inl ⟨rfl, rfl, rfl, rfl⟩⟩
  have nb : ∀ op : Int, 3 ≤ op → op ≤ 8 → ¬ (op < 3 ∨ 8 < op ∨ vknown a = false ∨ vknown b = false) := fun op g1 g2 h => by
    rcases h with h | h | h
    · omega
    · omega
    · exact h1 h
  by_cases h2 : a.k = 0 ∨ b.k = 0
  · exact ⟨2, 2, 2, 0, by unfold vcompare; rw [if_neg (nb _ (by decide) (by decide)), if_pos h2], by unfold vcompare; rw [if_neg (nb _ (by decide) (by decide)), if_pos h2], by unfold vcompare; rw [if_neg (nb _ (by decide) (by decide)), if_pos h2], .inr (.inl ⟨rfl, rfl, rfl, rfl⟩)⟩
  by_cases h3 : a.k = b.k
  · have key : ∀ op, 3 ≤ op → op ≤ 8 → vcompare op a b = if opIs op (vorder a b) = true then (1, 0) else (0, 0) := fun op g1 g2 => by
      unfold vcompare; rw [if_neg (nb op g1 g2), if_neg h2, if_neg (by simpa using h3)]
    rw [key 5 (by decide) (by decide), key 3 (by decide) (by decide), key 7 (by decide) (by decide)]
    rcases vorder_val a b with h | h | h <;> rw [h]
    · exact ⟨1, 0, 0, 0, rfl, rfl, rfl, .inr (.inr (.inl ⟨rfl, rfl, rfl, rfl⟩))⟩
    · exact ⟨0, 1, 0, 0, rfl, rfl, rfl, .inr (.inr (.inr (.inl ⟨rfl, rfl, rfl, rfl⟩)))⟩
    · exact ⟨0, 0, 1, 0, rfl, rfl, rfl, .inr (.inr (.inr (.inr ⟨rfl, rfl, rfl, rfl⟩)))⟩
  · exact ⟨0, 0, 0, 11, by unfold vcompare; rw [if_neg (nb _ (by decide) (by decide)), if_neg h2, if_pos h3], by unfold vcompare; rw [if_neg (nb _ (by decide) (by decide)), if_neg h2, if_pos h3], by unfold vcompare; rw [if_neg (nb _ (by decide) (by decide)), if_neg h2, if_pos h3], .inl ⟨rfl, rfl, rfl, rfl⟩⟩
theorem vless_vls (a b : Val) : vless a b = vls a b := by
  unfold vless
  rw [Bool.eq_iff_iff, decide_eq_true_eq]
  exact (vorder_ok a b).1
set_option maxHeartbeats 2000000 in
theorem orders_does (a b c : Val) {st : Sto} {id : Nat} {m : Int} (hm : MaxL st id m) : Does Tryd.prog 4 [.g (eV a), .g (eV b), .g (eV c)] st fun r s' => r = vB true ∧ s' = st := by
  have hl := long_is [a, b, c] (by show 3 ≤ Big; unfold Big; decide)
  have o1 := vorder_is a b
  have o2 := vorder_is b a
  have l1 := vless_is a b
  have l2 := vless_is b c
  have l3 := vless_is a c
  have ht := vls_trans a b c
  rw [← vless_vls, ← vless_vls, ← vless_vls] at ht
  have hz := (vorder_ok a b).2.2
  have hn : vorder b a = - vorder a b := vorder_neg b a
  have hv := vorder_val a b
  obtain ⟨x, y, z, e, c1, c2, c3, hc⟩ := vc3 a b
  have m1 := vcompare_is 5 a b
  have m2 := vcompare_is 3 a b
  have m3 := vcompare_is 7 a b
  rw [c1] at m1
  rw [c2] at m2
  rw [c3] at m3
  rw [hn] at o2
  have hw : IntKind.i64.wrap (0 - -vorder a b) = vorder a b := by rw [wrap_id (by omega) (by omega)]; omega
  clear c1 c2 c3 hn
  generalize vorder a b = p at *
  generalize vless a b = q1 at *
  generalize vless b c = q2 at *
  generalize vless a c = q3 at *
  have hwk := fun st (h : MaxL st id m) => works03_does h
  refine Does.of TP Tryd.func4 rfl rfl (Nat.le_of_ble_eq_true rfl) (Pw.of TP [3] ?_)
  conv => whnf
  refine Is.callB hl fun q hq => ?_
  cases q <;> conv => whnf
  rotate_left
  · refine (hwk _ hm).mono fun r s1 h1 => ?_
    obtain ⟨rfl, rfl⟩ := h1
    conv => whnf
    exact Fin.same rfl (.refl _) ⟨rfl, rfl⟩
  refine Pw.cut (τ := Unit) [3, 4, 5] (fun _ => []) (fun _ => st) (fun _ => True) (Pw.of TP [] ?_) fun _ _ => Pw.of TP [] ?_
  · refine Pw.drw TP mixed (by kernel_rfl) ?_; conv => whnf
    refine Is.draw o1 ?_
    conv => whnf
    refine Is.draw o2 ?_
    conv => whnf
    rw [hw]
    refine ⟨fun h => absurd rfl h, fun _ => ?_⟩
    conv => whnf
    refine Is.draw o1 ?_
    conv => whnf
    refine ⟨fun g => ?_, fun g => ?_⟩ <;> conv => whnf
    all_goals refine ⟨fun g2 => ?_, fun g2 => ?_⟩
    all_goals first
      | (exfalso; exact g2 (by obtain ⟨x1, x2, x3⟩ := hz.1 g; exact ⟨x1, x2, x3, trivial⟩))
      | (exfalso; exact g (hz.2 ⟨g2.1, g2.2.1, g2.2.2.1⟩))
      | skip
    all_goals conv => whnf
    all_goals refine Is.drawB l1 fun r1 e1 => ?_
    all_goals cases r1 <;> conv => whnf
    all_goals first
      | exact ⟨⟨rfl, rfl, rfl, trivial⟩, (), trivial, .refl _, trivial⟩
      | skip
    all_goals refine Is.drawB l2 fun r2 e2 => ?_
    all_goals cases r2 <;> conv => whnf
    all_goals first
      | exact ⟨⟨rfl, rfl, rfl, trivial⟩, (), trivial, .refl _, trivial⟩
      | skip
    all_goals refine Is.drawB l3 fun r3 e3 => ?_
    all_goals have e4 := ht e1 e2
    all_goals rw [e3] at e4
    all_goals subst e4
    all_goals conv => whnf
    all_goals exact ⟨⟨rfl, rfl, rfl, trivial⟩, (), trivial, .refl _, trivial⟩
  clear o1 o2 l1 l2 l3 ht hz hv hw hl
  rcases hc with ⟨rfl, rfl, rfl, rfl⟩ | ⟨rfl, rfl, rfl, rfl⟩ | ⟨rfl, rfl, rfl, rfl⟩ | ⟨rfl, rfl, rfl, rfl⟩ | ⟨rfl, rfl, rfl, rfl⟩
  all_goals conv => whnf
  all_goals refine m1.call ?_
  all_goals conv => whnf
  all_goals refine m2.call ?_
  all_goals conv => whnf
  all_goals refine m3.call ?_
  all_goals conv => whnf
  all_goals iterate 12 (first
    | (refine ⟨fun h => ?_, fun _ => ?_⟩
       · exfalso; revert h; decide
       conv => whnf)
    | (refine ⟨fun _ => ?_, fun h => ?_⟩
       rotate_left
       · exfalso; revert h; decide
       conv => whnf)
    | skip)
  all_goals refine (hwk _ hm).mono fun r s1 h1 => ?_
  all_goals obtain ⟨rfl, rfl⟩ := h1
  all_goals conv => whnf
  all_goals exact Fin.same rfl (.refl _) ⟨rfl, rfl⟩
end Go.Proofs.YtnafgpgbedcdnaaDoor.D
namespace Go.Proofs.YtnafgpgbedcdnaaDoor.D
set_option linter.unusedVariables false
set_option linter.unusedSimpArgs false
open Go Go.Proofs.YtnafgpgbedcdnaaDoor.D.Pm
set_option maxRecDepth 4000
def I64 (n : Int) : Prop := (Lit.int .i64 n).wf = true
def wfV (v : Val) : Prop := I64 v.k ∧ I64 v.n ∧ v.s.size ≤ maxLen
theorem rdV (m : Nat) : Rd Tryd.prog 23 eV wfV m :=
  (Rd.st (fun a : Int × Int × ByteArray => (⟨a.1, a.2.1, a.2.2⟩ : Val)) (by exact fun a => ⟨rfl, fun h => h⟩) Tryd.underlying23 (by kernel_rfl)
    (RdF.cons (s1 := 1) rfl (by kernel_rfl) (Rd.int Tryd.underlying3) (RdF.cons (s1 := 1) rfl (by kernel_rfl) (Rd.int Tryd.underlying3) (RdF.last (sz := 1) rfl (by kernel_rfl) (Rd.str Tryd.underlying9))))).less
theorem valueOrders_law (x0 x1 x2 : Val) (_ : wfV x0) (_ : wfV x1) (_ : wfV x2) : ∀ (st : Sto) (id : Nat) (m : Int), MaxL st id m → Does Tryd.prog 4 [.g (eV x0), .g (eV x1), .g (eV x2)] st fun r s' => r = vB true ∧ s' = st :=
  fun st id m h => orders_does x0 x1 x2 h
theorem rv_eV {G G' : Gh} {w w' : World} {a : Val} {v : Value} (h : RV G w (.g (eV a)) v) : RV G' w' (.g (eV a)) v := RV.plainG (l := [.int .i64 a.k, .int .i64 a.n, .string a.s]) h
end Go.Proofs.YtnafgpgbedcdnaaDoor.D
namespace Go.Proofs.YtnafgpgbedcdnaaDoor.D
set_option linter.unusedVariables false
set_option linter.unusedSimpArgs false
open Go Go.Proofs.YtnafgpgbedcdnaaDoor.D.Pm
/-! ### a number's digits, and the number of digits -/
def digN (n : Nat) : List UInt8 := if n < 10 then [UInt8.ofNat (48 + n)] else digN (n / 10) ++ [UInt8.ofNat (48 + n % 10)]
termination_by n
decreasing_by omega
theorem digN_small {n : Nat} (h : n < 10) : digN n = [UInt8.ofNat (48 + n)] := by rw [digN, if_pos h]
theorem digN_big {n : Nat} (h : ¬ n < 10) : digN n = digN (n / 10) ++ [UInt8.ofNat (48 + n % 10)] := by rw [digN, if_neg h]
def digZ (a : Int) : List UInt8 := if a < 0 then 45 :: digN a.natAbs else digN a.natAbs
def digB (a : Int) : ByteArray := ⟨(digZ a).toArray⟩
def isDig (c : UInt8) : Bool := decide (48 ≤ c.toNat) && decide (c.toNat ≤ 57)
def valN : List UInt8 → Nat → Nat
  | [], n => n
  | c :: l, n => valN l (n * 10 + (c.toNat - 48))
def readL (below : Bool) (l : List UInt8) : Int × Int :=
  if l = [] ∨ 19 < l.length ∨ (l.head? = some 48 ∧ (1 < l.length ∨ below = true)) then (0, 12)
  else if l.all isDig = true then
    (if below = true then (if valN l 0 ≤ 9223372036854775808 then (-(valN l 0 : Int), 0) else (0, 10))
     else (if valN l 0 ≤ 9223372036854775807 then ((valN l 0 : Int), 0) else (0, 10)))
  else (0, 12)
def readL' (l : List UInt8) : Int × Int := if l.head? = some 45 then readL true l.tail else readL false l
def readZ (s : ByteArray) : Int × Int := readL' s.data.toList
theorem u8_of {n : Nat} (h : n < 256) : (UInt8.ofNat n).toNat = n := by simp [UInt8.toNat_ofNat']; omega
theorem valN_app (l r : List UInt8) : ∀ n, valN (l ++ r) n = valN r (valN l n) := by
  induction l with
  | nil => intro n; rfl
  | cons a l ih => intro n; exact ih _
theorem head_app {α : Type} {l : List α} (r : List α) (h : l ≠ []) : (l ++ r).head? = l.head? := by
  cases l with
  | nil => exact absurd rfl h
  | cons a l => rfl
theorem digN_ok (n : Nat) : (digN n).all isDig = true ∧ valN (digN n) 0 = n ∧ digN n ≠ [] ∧ ((digN n).head? = some 48 → n = 0) := by
  induction n using Nat.strongRecOn with
  | _ n ih =>
    by_cases h : n < 10
    · rw [digN_small h]
      have hu := u8_of (n := 48 + n) (by omega)
      refine ⟨?_, ?_, by simp, fun e => ?_⟩
      · simp [isDig, hu]; omega
      · simp only [valN]; rw [hu]; omega
      · have : UInt8.ofNat (48 + n) = 48 := by simpa using e
        have := congrArg UInt8.toNat this
        rw [hu] at this
        have h2 : (48 : UInt8).toNat = 48 := rfl
        omega
    · obtain ⟨h1, h2, h3, h4⟩ := ih (n / 10) (by omega)
      rw [digN_big h]
      have hu := u8_of (n := 48 + n % 10) (by omega)
      refine ⟨?_, ?_, by simp, fun e => ?_⟩
      · rw [List.all_append, h1]; simp [isDig, hu]; omega
      · rw [valN_app, h2]; simp only [valN]; rw [hu]; omega
      · rw [head_app _ h3] at e
        have := h4 e
        omega
theorem digN_len (k : Nat) : ∀ n, n < 10 ^ k → 0 < k → (digN n).length ≤ k := by
  induction k with
  | zero => intro n _ h; omega
  | succ k ih =>
    intro n hn _
    by_cases h : n < 10
    · rw [digN_small h]; simp
    · rw [digN_big h, List.length_append]
      have hk : 0 < k := by
        rcases Nat.eq_zero_or_pos k with h0 | h0
        · subst h0; simp at hn; omega
        · exact h0
      have := ih (n / 10) (by rw [Nat.pow_succ] at hn; omega) hk
      simp; omega
theorem digN_19 {n : Nat} (h : n ≤ 9223372036854775808) : (digN n).length ≤ 19 := digN_len 19 n (by omega) (by omega)
theorem head_dig {l : List UInt8} (h : l.all isDig = true) : l.head? ≠ some 45 := by
  cases l with
  | nil => simp
  | cons c l =>
    intro e
    have : c = 45 := by simpa using e
    subst this
    simp [isDig] at h
def in64 (a : Int) : Prop := -9223372036854775808 ≤ a ∧ a ≤ 9223372036854775807
theorem readL_dig {a : Int} (ha : in64 a) : readL' (digZ a) = (a, 0) := by
  unfold in64 at ha
  obtain ⟨h1, h2, h3, h4⟩ := digN_ok a.natAbs
  have h19 := digN_19 (n := a.natAbs) (by omega)
  unfold readL' digZ
  by_cases hn : a < 0
  · rw [if_pos hn, if_pos (by rfl)]
    show readL true (digN a.natAbs) = _
    unfold readL
    rw [if_neg (by rintro (z | z | z); exact h3 z; omega; have := h4 z.1; omega), if_pos h1, if_pos rfl, h2, if_pos (by omega)]
    congr 1
    omega
  · rw [if_neg hn, if_neg (head_dig h1)]
    unfold readL
    rw [if_neg ?_, if_pos h1, if_neg (by decide), h2, if_pos (by omega)]
    · congr 1
      omega
    · rintro (z | z | z)
      · exact h3 z
      · omega
      · have h0 := h4 z.1
        rcases z.2 with y | y
        · rw [h0, digN_small (by omega)] at y
          simp at y
        · exact absurd y (by decide)
theorem readZ_dig {a : Int} (ha : in64 a) : readZ (digB a) = (a, 0) := readL_dig ha
theorem rev_ind {α : Type} {P : List α → Prop} (h0 : P []) (h1 : ∀ l c, P l → P (l ++ [c])) (l : List α) : P l := by
  have : ∀ r : List α, P r.reverse := by
    intro r
    induction r with
    | nil => exact h0
    | cons c t ih => rw [List.reverse_cons]; exact h1 _ _ ih
  have h := this l.reverse
  rwa [List.reverse_reverse] at h
theorem isDig_iff {c : UInt8} : isDig c = true ↔ 48 ≤ c.toNat ∧ c.toNat ≤ 57 := by simp [isDig]
theorem valN_ge (l : List UInt8) : ∀ n, n ≤ valN l n := by
  induction l with
  | nil => intro n; exact Nat.le_refl _
  | cons c l ih => intro n; exact Nat.le_trans (by omega) (ih _)
theorem u8_eq {c : UInt8} {n : Nat} (h : c.toNat = n) : UInt8.ofNat n = c := by
  subst h
  simp
theorem digN_val (l : List UInt8) : l ≠ [] → l.all isDig = true → (l.head? = some 48 → l.length = 1) → digN (valN l 0) = l := by
  induction l using rev_ind with
  | h0 => intro h; exact absurd rfl h
  | h1 l c ih =>
    intro _ hd hh
    rw [List.all_append, Bool.and_eq_true] at hd
    have hc : 48 ≤ c.toNat ∧ c.toNat ≤ 57 := isDig_iff.1 (by simpa using hd.2)
    rw [valN_app]
    show digN (valN l 0 * 10 + (c.toNat - 48)) = _
    by_cases hl : l = []
    · subst hl
      rw [show valN [] 0 = 0 from rfl, digN_small (by omega), u8_eq (by omega : c.toNat = _)]
      rfl
    · have hpos : 0 < l.length := List.length_pos_iff.2 hl
      have h48 : l.head? ≠ some 48 := by
        intro z
        have hz := hh (by rw [head_app _ hl]; exact z)
        rw [List.length_append, List.length_singleton] at hz
        omega
      have hv : 1 ≤ valN l 0 := by
        cases l with
        | nil => exact absurd rfl hl
        | cons a t =>
          have ha : 48 ≤ a.toNat ∧ a.toNat ≤ 57 := isDig_iff.1 (by have := hd.1; rw [List.all_cons, Bool.and_eq_true] at this; exact this.1)
          have h48' : a.toNat ≠ 48 := fun e => h48 (by
            have : a = 48 := by rw [← u8_eq e]; rfl
            rw [this]; rfl)
          exact Nat.le_trans (by omega) (valN_ge t (0 * 10 + (a.toNat - 48)))
      have hi := ih hl hd.1 (fun z => absurd z h48)
      rw [digN_big (by omega)]
      have e1 : (valN l 0 * 10 + (c.toNat - 48)) / 10 = valN l 0 := by omega
      have e2 : 48 + (valN l 0 * 10 + (c.toNat - 48)) % 10 = c.toNat := by omega
      rw [e1, e2, hi, u8_eq rfl]
theorem dig_readL {l : List UInt8} {m : Int} (h : readL' l = (m, 0)) : in64 m ∧ digZ m = l := by
  unfold readL' at h
  by_cases h45 : l.head? = some 45
  · rw [if_pos h45] at h
    obtain ⟨t, rfl⟩ : ∃ t, l = 45 :: t := by
      cases l with
      | nil => simp at h45
      | cons c t => simp at h45; exact ⟨t, by rw [h45]⟩
    rw [show (45 :: t).tail = t from rfl] at h
    unfold readL at h
    split at h
    · simp at h
    · rename_i hb
      split at h
      · rename_i hd
        rw [if_pos rfl] at h
        split at h
        · rename_i hv
          have hm : m = -(valN t 0 : Int) := by have := (Prod.mk.inj h).1; omega
          have hne : t ≠ [] := fun z => hb (.inl z)
          have h48 : t.head? ≠ some 48 := fun z => hb (.inr (.inr ⟨z, .inr rfl⟩))
          have hdv := digN_val t hne hd (fun z => absurd z h48)
          have hp : 0 < valN t 0 := by
            rcases Nat.eq_zero_or_pos (valN t 0) with h0 | h0
            · rw [h0, digN_small (by omega)] at hdv
              exact absurd (by rw [← hdv]; rfl) h48
            · exact h0
          refine ⟨by unfold in64; omega, ?_⟩
          unfold digZ
          rw [if_pos (by omega), hm, show (-(valN t 0 : Int)).natAbs = valN t 0 by omega, hdv]
        · simp at h
      · simp at h
  · rw [if_neg h45] at h
    unfold readL at h
    split at h
    · simp at h
    · rename_i hb
      split at h
      · rename_i hd
        rw [if_neg (by decide)] at h
        split at h
        · rename_i hv
          have hm : m = (valN l 0 : Int) := by have := (Prod.mk.inj h).1; omega
          have hne : l ≠ [] := fun z => hb (.inl z)
          have h48 : l.head? = some 48 → l.length = 1 := fun z => by
            have h1 : ¬ 1 < l.length := fun y => hb (.inr (.inr ⟨z, .inl y⟩))
            have := List.length_pos_iff.2 hne
            omega
          have hdv := digN_val l hne hd h48
          refine ⟨by unfold in64; omega, ?_⟩
          unfold digZ
          rw [if_neg (by omega), hm, show ((valN l 0 : Int)).natAbs = valN l 0 by omega, hdv]
        · simp at h
      · simp at h
theorem digB_read {s : ByteArray} {m : Int} (h : readZ s = (m, 0)) : in64 m ∧ digB m = s := by
  obtain ⟨h1, h2⟩ := dig_readL h
  refine ⟨h1, ?_⟩
  unfold digB
  rw [h2]
theorem digZ_len {a : Int} (ha : in64 a) : 0 < (digZ a).length ∧ (digZ a).length ≤ 20 := by
  unfold in64 at ha
  have h19 := digN_19 (n := a.natAbs) (by omega)
  have h0 : 0 < (digN a.natAbs).length := List.length_pos_iff.2 (digN_ok a.natAbs).2.2.1
  unfold digZ
  split
  · simp; omega
  · omega
theorem digB_size {a : Int} (ha : in64 a) : 0 < (digB a).size ∧ (digB a).size ≤ 20 := digZ_len ha
end Go.Proofs.YtnafgpgbedcdnaaDoor.D
namespace Go.Proofs.YtnafgpgbedcdnaaDoor.D
set_option linter.unusedVariables false
set_option linter.unusedSimpArgs false
open Go Go.Proofs.YtnafgpgbedcdnaaDoor.D.Pm
set_option maxRecDepth 4000
theorem wrapU_id {n : Int} (h1 : 0 ≤ n) (h2 : n ≤ 18446744073709551615) : IntKind.u64.wrap n = n := by
  simp only [IntKind.wrap, IntKind.bits, IntKind.signed]
  have : n % 18446744073709551616 = n := Int.emod_eq_of_lt h1 (by omega)
  simpa using this
theorem wrapB_id {n : Int} (h1 : 0 ≤ n) (h2 : n ≤ 255) : IntKind.u8.wrap n = n := by
  simp only [IntKind.wrap, IntKind.bits, IntKind.signed]
  have : n % 256 = n := Int.emod_eq_of_lt h1 (by omega)
  simpa using this
def bufR (suf : List UInt8) : List (List AC) := List.replicate (20 - suf.length) [AC.v (.int .u8 0)] ++ suf.map fun c => [AC.v (.int .u8 c.toNat)]
theorem bufR_set {suf : List UInt8} {c : UInt8} (h : suf.length < 20) : (bufR suf).set (20 - suf.length - 1) [AC.v (.int .u8 c.toNat)] = bufR (c :: suf) := by
  unfold bufR
  rw [List.set_append_left _ _ (by simp; omega)]
  have : 20 - suf.length = (20 - (c :: suf).length) + 1 := by simp; omega
  rw [this, List.replicate_succ']
  rw [List.set_append_right _ _ (by simp)]
  simp
theorem bufR_get {suf : List UInt8} (h : suf.length < 20) : (bufR suf)[20 - suf.length - 1]? = some [AC.v (.int .u8 0)] := by
  unfold bufR
  rw [List.getElem?_append_left (by simp; omega)]
  rw [List.getElem?_replicate, if_pos (by omega)]
theorem bufR_len {suf : List UInt8} (h : suf.length ≤ 20) : (bufR suf).length = 20 := by unfold bufR; simp; omega
theorem bufR_drop {suf : List UInt8} (h : suf.length ≤ 20) : (bufR suf).drop (20 - suf.length) = suf.map fun c => [AC.v (.int .u8 c.toNat)] := by
  unfold bufR
  rw [List.drop_append_of_le_length (by simp), List.drop_of_length_le (by simp)]
  rfl
set_option maxHeartbeats 1000000 in
theorem digits_is (a : Int) (ha : in64 a) : Is Tryd.prog 16 [vI .i64 a] (vS (digB a)) := by
  unfold in64 at ha
  refine Is.of TP Tryd.func16 rfl rfl (Nat.le_of_ble_eq_true rfl) fun st => Pw.of TP [] ?_
  conv => whnf
  refine ⟨rfl, fun id hid => ?_⟩
  conv => whnf
  refine ⟨rfl, ?_⟩
  conv => whnf
  refine ⟨fun hc => ?_, fun hc => ?_⟩ <;> conv => whnf
  all_goals have h19 := digN_19 (n := a.natAbs) (by omega)
  all_goals refine Pw.lpS (σ := Nat × List UInt8) [0, 3] (fun x => [(4, vI .u64 x.1), (5, vI .i64 ((20 - x.2.length : Nat) : Int))]) (fun x => upd st id (.ar 1 (bufR x.2))) (fun x => x.1 ≤ 9223372036854775808 ∧ digN x.1 ++ x.2 = digN a.natAbs) (fun x => x.1) (a.natAbs, []) ⟨congrArg (fun x => some (vI .u64 x)) ?_, rfl, trivial⟩ (.refl _) ⟨by show a.natAbs ≤ _; omega, List.append_nil _⟩ fun x hx => Pw.of TP [] ?_
  · show IntKind.u64.wrap (0 - IntKind.u64.wrap a) = (a.natAbs : Int)
    have e1 : IntKind.u64.wrap a = a + 18446744073709551616 := by
      simp only [IntKind.wrap, IntKind.bits, IntKind.signed]
      have : a % 18446744073709551616 = a + 18446744073709551616 := by omega
      simpa using this
    rw [e1]
    simp only [IntKind.wrap, IntKind.bits, IntKind.signed]
    have : (0 - (a + 18446744073709551616)) % 18446744073709551616 = (a.natAbs : Int) := by omega
    simpa using this
  · obtain ⟨n, suf⟩ := x
    obtain ⟨hn, hx⟩ := hx
    dsimp only at hn hx ⊢
    have h1 : 0 < (digN n).length := List.length_pos_iff.2 (digN_ok n).2.2.1
    have hl : (digN n).length + suf.length ≤ 19 := by rw [← List.length_append, hx]; exact h19
    conv => whnf
    refine ⟨by decide, ?_⟩
    conv => whnf
    refine ⟨rfl, ?_⟩
    conv => whnf
    have hw1 : IntKind.i64.wrap (((20 - suf.length : Nat) : Int) - 1) = ((20 - suf.length - 1 : Nat) : Int) := by rw [wrap_id (by omega) (by omega)]; omega
    have hw2 : IntKind.u64.wrap ((n : Int).tdiv 10) = ((n / 10 : Nat) : Int) := by
      have e : (n : Int).tdiv 10 = ((n / 10 : Nat) : Int) := rfl
      rw [e, wrapU_id (by omega) (by omega)]
    have hw3 : IntKind.u8.wrap (48 + IntKind.u8.wrap ((n : Int).tmod 10)) = ((UInt8.ofNat (48 + n % 10)).toNat : Int) := by
      have e : (n : Int).tmod 10 = ((n % 10 : Nat) : Int) := rfl
      rw [e, wrapB_id (n := ((n % 10 : Nat) : Int)) (by omega) (by omega), u8_of (by omega), wrapB_id (by omega) (by omega)]
      omega
    have hset : (bufR suf).set (0 + (IntKind.i64.wrap (((20 - suf.length : Nat) : Int) - 1)).toNat) (putAt [AC.v (.int .u8 0)] 0 (avc (vI .u8 (IntKind.u8.wrap (48 + IntKind.u8.wrap ((n : Int).tmod 10)))))) = bufR (UInt8.ofNat (48 + n % 10) :: suf) := by
      rw [hw1, hw3, Nat.zero_add]
      exact bufR_set (by omega)
    refine ⟨by rw [hw1]; omega, ?_, ⟨_, upd_same _ _ _⟩, ?_⟩
    · rw [hw1]; omega
    conv => whnf
    refine ⟨_, _, [AC.v (.int .u8 0)], upd_same _ _ _, by rw [hw1, Nat.zero_add]; exact bufR_get (suf := suf) (by omega), Nat.le_of_ble_eq_true rfl, ?_⟩
    rw [hset]
    conv => whnf
    refine ⟨by decide, ?_⟩
    conv => whnf
    refine ⟨fun hz => ?_, fun hz => ?_⟩
    · rw [hw2] at hz
      have hd : UInt8.ofNat (48 + n % 10) :: suf = digN a.natAbs := by
        rw [← hx, digN_small (by omega), Nat.mod_eq_of_lt (by omega)]; rfl
      rw [hd]
      conv => whnf
      have hls : (digN a.natAbs).length = suf.length + 1 := by rw [← hd]; rfl
      have hw4 : IntKind.i64.wrap (IntKind.i64.wrap (((20 - suf.length : Nat) : Int) - 1) - 1) = ((20 - (digN a.natAbs).length - 1 : Nat) : Int) := by rw [hw1, wrap_id (by omega) (by omega)]; omega
      have hset2 : (bufR (digN a.natAbs)).set (0 + (IntKind.i64.wrap (IntKind.i64.wrap (((20 - suf.length : Nat) : Int) - 1) - 1)).toNat) (putAt [AC.v (.int .u8 0)] 0 (avc (.c (.v (.int .u8 45))))) = bufR (45 :: digN a.natAbs) := by
        rw [hw4, Nat.zero_add]
        exact bufR_set (c := 45) (by omega)
      refine ⟨fun _ => ?_, fun h => absurd hc h⟩
      conv => whnf
      refine ⟨by rw [hw4]; omega, by rw [hw4]; omega, ⟨_, upd_same _ _ _⟩, ?_⟩
      conv => whnf
      refine ⟨_, _, [AC.v (.int .u8 0)], upd_same _ _ _, by rw [hw4, Nat.zero_add]; exact bufR_get (suf := digN a.natAbs) (by omega), Nat.le_of_ble_eq_true rfl, ?_⟩
      rw [hset2]
      conv => whnf
      refine ⟨by unfold maxLen; decide, ⟨_, upd_same _ _ _, bufR_len (by first | omega | (simp only [List.length_cons]; omega))⟩, ?_⟩
      conv => whnf
      refine ⟨by rw [hw4]; omega, by rw [hw4]; omega, Int.le_refl _, ?_⟩
      conv => whnf
      refine ⟨_, digB a, upd_same _ _ _, ?_, ?_, ?_⟩
      · rw [hw4, bufR_len (suf := 45 :: digN a.natAbs) (by simp; omega)]; show _ ≤ 20; have : ((20 : Int)).toNat = 20 := rfl; omega
      · rw [hw4]
        have hz2 : (digZ a).length = (digN a.natAbs).length + 1 := by unfold digZ; rw [if_pos hc]; rfl
        have e1 : (((20 - (digN a.natAbs).length - 1 : Nat) : Int)).toNat = 20 - (45 :: digN a.natAbs).length := by simp; omega
        rw [e1, bufR_drop (by simp; omega), List.take_of_length_le (by simp; omega)]
        show _ = (digZ a).map _
        unfold digZ
        rw [if_pos hc]
      conv => whnf
      exact Fin.old rfl ((((Le.refl st).up hid).up2 hid).up2 hid)
    · conv => whnf
      refine ⟨⟨rfl, rfl, trivial⟩, (n / 10, UInt8.ofNat (48 + n % 10) :: suf), ⟨congrArg (fun x => some (vI .u64 x)) hw2, congrArg (fun x => some (vI .i64 x)) (hw1.trans (by simp; omega)), trivial⟩, fun i o ho => ?_, ⟨by omega, ?_⟩, ?_⟩
      · unfold upd at ho ⊢
        split at ho
        · rename_i he; rw [if_pos he]; exact ho
        · rename_i he; rw [if_neg he, if_neg he]; exact ho
      · rw [← hx, digN_big (n := n) (by rw [hw2] at hz; omega), List.append_assoc]; rfl
      · show n / 10 < n
        rw [hw2] at hz; omega
  · show IntKind.u64.wrap a = (a.natAbs : Int)
    rw [wrapU_id (by omega) (by omega)]; omega
  · obtain ⟨n, suf⟩ := x
    obtain ⟨hn, hx⟩ := hx
    dsimp only at hn hx ⊢
    have h1 : 0 < (digN n).length := List.length_pos_iff.2 (digN_ok n).2.2.1
    have hl : (digN n).length + suf.length ≤ 19 := by rw [← List.length_append, hx]; exact h19
    conv => whnf
    refine ⟨by decide, ?_⟩
    conv => whnf
    refine ⟨rfl, ?_⟩
    conv => whnf
    have hw1 : IntKind.i64.wrap (((20 - suf.length : Nat) : Int) - 1) = ((20 - suf.length - 1 : Nat) : Int) := by rw [wrap_id (by omega) (by omega)]; omega
    have hw2 : IntKind.u64.wrap ((n : Int).tdiv 10) = ((n / 10 : Nat) : Int) := by
      have e : (n : Int).tdiv 10 = ((n / 10 : Nat) : Int) := rfl
      rw [e, wrapU_id (by omega) (by omega)]
    have hw3 : IntKind.u8.wrap (48 + IntKind.u8.wrap ((n : Int).tmod 10)) = ((UInt8.ofNat (48 + n % 10)).toNat : Int) := by
      have e : (n : Int).tmod 10 = ((n % 10 : Nat) : Int) := rfl
      rw [e, wrapB_id (n := ((n % 10 : Nat) : Int)) (by omega) (by omega), u8_of (by omega), wrapB_id (by omega) (by omega)]
      omega
    have hset : (bufR suf).set (0 + (IntKind.i64.wrap (((20 - suf.length : Nat) : Int) - 1)).toNat) (putAt [AC.v (.int .u8 0)] 0 (avc (vI .u8 (IntKind.u8.wrap (48 + IntKind.u8.wrap ((n : Int).tmod 10)))))) = bufR (UInt8.ofNat (48 + n % 10) :: suf) := by
      rw [hw1, hw3, Nat.zero_add]
      exact bufR_set (by omega)
    refine ⟨by rw [hw1]; omega, ?_, ⟨_, upd_same _ _ _⟩, ?_⟩
    · rw [hw1]; omega
    conv => whnf
    refine ⟨_, _, [AC.v (.int .u8 0)], upd_same _ _ _, by rw [hw1, Nat.zero_add]; exact bufR_get (suf := suf) (by omega), Nat.le_of_ble_eq_true rfl, ?_⟩
    rw [hset]
    conv => whnf
    refine ⟨by decide, ?_⟩
    conv => whnf
    refine ⟨fun hz => ?_, fun hz => ?_⟩
    · rw [hw2] at hz
      have hd : UInt8.ofNat (48 + n % 10) :: suf = digN a.natAbs := by
        rw [← hx, digN_small (by omega), Nat.mod_eq_of_lt (by omega)]; rfl
      rw [hd]
      conv => whnf
      have hls : (digN a.natAbs).length = suf.length + 1 := by rw [← hd]; rfl
      refine ⟨fun h => absurd h hc, fun _ => ?_⟩
      conv => whnf
      refine ⟨by unfold maxLen; decide, ⟨_, upd_same _ _ _, bufR_len (by first | omega | (simp only [List.length_cons]; omega))⟩, ?_⟩
      conv => whnf
      refine ⟨by rw [hw1]; omega, by rw [hw1]; omega, Int.le_refl _, ?_⟩
      conv => whnf
      refine ⟨_, digB a, upd_same _ _ _, ?_, ?_, ?_⟩
      · rw [hw1, bufR_len (by omega)]; show _ ≤ 20; have : ((20 : Int)).toNat = 20 := rfl; omega
      · rw [hw1]
        have e1 : (((20 - suf.length - 1 : Nat) : Int)).toNat = 20 - (digN a.natAbs).length := by omega
        rw [e1, bufR_drop (by omega), List.take_of_length_le (by simp; omega)]
        show _ = (digZ a).map _
        unfold digZ
        rw [if_neg hc]
      conv => whnf
      exact Fin.old rfl (((Le.refl st).up hid).up2 hid)
    · conv => whnf
      refine ⟨⟨rfl, rfl, trivial⟩, (n / 10, UInt8.ofNat (48 + n % 10) :: suf), ⟨congrArg (fun x => some (vI .u64 x)) hw2, congrArg (fun x => some (vI .i64 x)) (hw1.trans (by simp; omega)), trivial⟩, fun i o ho => ?_, ⟨by omega, ?_⟩, ?_⟩
      · unfold upd at ho ⊢
        split at ho
        · rename_i he; rw [if_pos he]; exact ho
        · rename_i he; rw [if_neg he, if_neg he]; exact ho
      · rw [← hx, digN_big (n := n) (by rw [hw2] at hz; omega), List.append_assoc]; rfl
      · show n / 10 < n
        rw [hw2] at hz; omega
end Go.Proofs.YtnafgpgbedcdnaaDoor.D
namespace Go.Proofs.YtnafgpgbedcdnaaDoor.D
set_option linter.unusedVariables false
set_option linter.unusedSimpArgs false
open Go Go.Proofs.YtnafgpgbedcdnaaDoor.D.Pm
set_option maxRecDepth 4000
/-! ### bytes of a text -/
theorem by_at {s : ByteArray} {i : Nat} (h : i < s.size) : by_ s (i : Int) = ((s.data.toList[i]'(by simpa using h)).toNat : Int) := by
  unfold by_
  rw [dif_pos (show ((i : Int)).toNat < s.size from h)]
  congr 1
theorem by_get {s : ByteArray} {i : Nat} {c : UInt8} (h : s.data.toList[i]? = some c) : i < s.size ∧ by_ s (i : Int) = (c.toNat : Int) := by
  obtain ⟨h1, h2⟩ := List.getElem?_eq_some_iff.1 h
  have h3 : i < s.size := by simpa using h1
  refine ⟨h3, ?_⟩
  rw [by_at h3, h2]
theorem size_list (s : ByteArray) : s.data.toList.length = s.size := by simp
theorem ba_ext {s t : ByteArray} (h : s.data.toList = t.data.toList) : s = t := by
  obtain ⟨a⟩ := s; obtain ⟨b⟩ := t
  exact congrArg ByteArray.mk (Array.toList_inj.1 h)
theorem ba_empty {s : ByteArray} : s = ⟨#[]⟩ ↔ s.data.toList = [] := ⟨fun h => by subst h; rfl, fun h => ba_ext h⟩
theorem ext_list (s : ByteArray) (a b : Nat) : (s.extract a b).data.toList = (s.data.toList.take b).drop a := by
  simp [List.drop_take]
theorem byte_eq {c : UInt8} {n : Nat} (h : n < 256) : ((c.toNat : Int) = n) ↔ c = UInt8.ofNat n := by
  constructor
  · intro e
    have : c.toNat = n := by omega
    rw [← this]; simp
  · intro e
    subst e
    rw [u8_of h]
theorem valN_lt (l : List UInt8) (h : l.all isDig = true) : valN l 0 < 10 ^ l.length := by
  induction l using rev_ind with
  | h0 => decide
  | h1 l c ih =>
    rw [List.all_append, Bool.and_eq_true] at h
    have hc : 48 ≤ c.toNat ∧ c.toNat ≤ 57 := isDig_iff.1 (by simpa using h.2)
    have := ih h.1
    rw [valN_app, List.length_append, List.length_singleton, Nat.pow_succ]
    show valN l 0 * 10 + (c.toNat - 48) < _
    omega
theorem wrap_neg (v : Nat) (h : v ≤ 9223372036854775808) : IntKind.i64.wrap (IntKind.u64.wrap (0 - (v : Int))) = -(v : Int) := by
  by_cases h0 : v = 0
  · subst h0; rfl
  have e1 : IntKind.u64.wrap (0 - (v : Int)) = 18446744073709551616 - v := by
    simp only [IntKind.wrap, IntKind.bits, IntKind.signed]
    have : (0 - (v : Int)) % 18446744073709551616 = 18446744073709551616 - v := by omega
    simpa using this
  rw [e1]
  show (if (true && decide ((18446744073709551616 - (v : Int)) % 2 ^ 64 ≥ 2 ^ 63)) = true then (18446744073709551616 - (v : Int)) % 2 ^ 64 - 2 ^ 64 else (18446744073709551616 - (v : Int)) % 2 ^ 64) = -(v : Int)
  split
  · rename_i h3
    simp at h3
    omega
  · rename_i h3
    simp at h3
    omega
set_option maxHeartbeats 1000000 in
theorem nread_is (s : ByteArray) (hs : s.size ≤ Big) : Is Tryd.prog 15 [vS s] (.t [vI .i64 (readZ s).1, vI .i64 (readZ s).2]) := by
  obtain ⟨l, hl⟩ : ∃ l, s.data.toList = l := ⟨_, rfl⟩
  have hb45 : ∀ h : 0 < s.size, (by_ s 0 = 45 ↔ s.data.toList.head? = some 45) := fun h => by
    rw [show (0 : Int) = ((0 : Nat) : Int) from rfl, by_at h]
    have h2 : 0 < s.data.toList.length := by simpa using h
    obtain ⟨c, r, hc⟩ : ∃ c r, s.data.toList = c :: r := by
      cases hl : s.data.toList with
      | nil => rw [hl] at h2; simp at h2
      | cons c r => exact ⟨c, r, rfl⟩
    simp only [hc, List.getElem_cons_zero, List.head?_cons, Option.some.injEq]
    exact byte_eq (n := 45) (by omega)
  refine Is.of TP Tryd.func15 rfl rfl (Nat.le_of_ble_eq_true rfl) fun st => Pw.of TP [2, 5] ?_
  conv => whnf
  refine Pw.cut (τ := Unit) [4] (fun _ => [(5, vB (decide (s.data.toList.head? = some 45)))]) (fun _ => st) (fun _ => True) (Pw.of TP [] ?_) fun _ _ => ?_
  · conv => whnf
    refine ⟨fun h => ?_, fun h => ?_⟩ <;> conv => whnf
    · have h0 : 0 < s.size := by
        rcases Nat.eq_zero_or_pos s.size with h0 | h0
        · exact absurd (by simpa using h0 : s = ByteArray.empty) h
        · exact h0
      refine ⟨Int.le_refl _, by omega, ?_⟩
      conv => whnf
      refine ⟨fun h1 => ?_, fun h1 => ?_⟩ <;> conv => whnf
      · exact ⟨⟨rfl, trivial⟩, (), ⟨congrArg (fun x => some (vB x)) (decide_eq_true ((hb45 h0).1 h1)).symm, trivial⟩, .refl _, trivial⟩
      · exact ⟨⟨rfl, trivial⟩, (), ⟨congrArg (fun x => some (vB x)) (decide_eq_false fun e => h1 ((hb45 h0).2 e)).symm, trivial⟩, .refl _, trivial⟩
    · have h0 : s = ⟨#[]⟩ := Classical.not_not.1 h
      exact ⟨⟨rfl, trivial⟩, (), ⟨congrArg (fun x => some (vB x)) (by rw [h0]; rfl), trivial⟩, .refl _, trivial⟩
  obtain ⟨b, hb⟩ : ∃ b, decide (s.data.toList.head? = some 45) = b := ⟨_, rfl⟩
  obtain ⟨r, hr⟩ : ∃ r, (if b = true then s.extract 1 s.size else s) = r := ⟨_, rfl⟩
  have hZ : readZ s = readL b r.data.toList := by
    unfold readZ readL'
    cases b
    · rw [if_neg (by simpa using hb), ← hr]; rfl
    · rw [if_pos (by simpa using hb), ← hr, if_pos rfl, ext_list, ← size_list, List.take_length, List.drop_one]
  have hrs : r.size ≤ s.size := by
    rw [← hr]; split
    · rw [ByteArray.size_extract]; omega
    · exact Nat.le_refl _
  rw [hb, hZ]
  refine Pw.cut (τ := Unit) [] (fun _ => [(4, vS r), (5, vB b)]) (fun _ => st) (fun _ => True) (Pw.of TP [] ?_) fun _ _ => Pw.of TP [] ?_
  · conv => whnf
    cases b <;> conv => whnf
    · exact ⟨trivial, (), ⟨congrArg (fun x => some (vS x)) hr, rfl, trivial⟩, .refl _, trivial⟩
    · have h0 : 0 < s.size := by
        rcases Nat.eq_zero_or_pos s.size with h0 | h0
        · have : s = ByteArray.empty := by simpa using h0
          rw [this] at hb; exact absurd hb (by decide)
        · exact h0
      refine ⟨by decide, by omega, Int.le_refl _, ?_⟩
      conv => whnf
      exact ⟨trivial, (), ⟨congrArg (fun x => some (vS x)) hr, rfl, trivial⟩, .refl _, trivial⟩
  clear hl hb45 hb hr hZ
  have hb0 : ∀ n : Nat, n < 256 → ∀ h : 0 < r.size, (by_ r 0 = n ↔ r.data.toList.head? = some (UInt8.ofNat n)) := fun n hn h => by
    rw [show (0 : Int) = ((0 : Nat) : Int) from rfl, by_at h]
    have h2 : 0 < r.data.toList.length := by simpa using h
    obtain ⟨c, q, hc⟩ : ∃ c q, r.data.toList = c :: q := by
      cases hl : r.data.toList with
      | nil => rw [hl] at h2; simp at h2
      | cons c r => exact ⟨c, r, rfl⟩
    simp only [hc, List.getElem_cons_zero, List.head?_cons, Option.some.injEq]
    exact byte_eq hn
  have hrn : ¬ r = ⟨#[]⟩ → 0 < r.size := fun h => by
    rcases Nat.eq_zero_or_pos r.size with h0 | h0
    · exact absurd (by simpa using h0 : r = ByteArray.empty) h
    · exact h0
  have hrE : r.data.toList = [] ↔ r = ⟨#[]⟩ := ba_empty.symm
  have hrL : r.data.toList.length = r.size := size_list r
  conv => whnf
  refine ⟨fun g1 => ?_, fun g1 => ?_⟩ <;> conv => whnf
  · refine Fin.old ?_ (.refl _)
    unfold readL
    rw [if_pos (.inl (hrE.2 g1))]
    rfl
  refine ⟨fun g2 => ?_, fun g2 => ?_⟩ <;> conv => whnf
  · refine Fin.old ?_ (.refl _)
    unfold readL
    rw [if_pos (.inr (.inl (by omega)))]
    rfl
  refine ⟨Int.le_refl _, by have := hrn g1; omega, ?_⟩
  conv => whnf
  have h48 := hb0 48 (by omega) (hrn g1)
  have main : (¬ (r.data.toList = [] ∨ 19 < r.data.toList.length ∨ (r.data.toList.head? = some 48 ∧ (1 < r.data.toList.length ∨ b = true)))) → True := fun _ => trivial
  refine ⟨fun g3 => ?_, fun g3 => ?_⟩ <;> conv => whnf
  · refine ⟨fun g4 => ?_, fun g4 => ?_⟩ <;> conv => whnf
    · refine Fin.old ?_ (.refl _)
      unfold readL
      rw [if_pos (.inr (.inr ⟨h48.1 g3, .inl (by omega)⟩))]
      rfl
    · cases b <;> conv => whnf
      rotate_left
      · refine Fin.old ?_ (.refl _)
        unfold readL
        rw [if_pos (.inr (.inr ⟨h48.1 g3, .inr rfl⟩))]
        rfl
      have hN : ¬ (r.data.toList = [] ∨ 19 < r.data.toList.length ∨ (r.data.toList.head? = some 48 ∧ (1 < r.data.toList.length ∨ false = true))) := by
        rintro (z | z | z)
        · exact g1 (hrE.1 z)
        · omega
        · rcases z.2 with y | y
          · omega
          · cases y
      refine Pw.rngS (τ := Unit) 41 r.size (Nat.le_trans hrs hs) [4, 5, 40] (fun i _ => [(6, vI .u64 (valN (r.data.toList.take i) 0 : Nat))]) (fun _ _ => st) (fun i _ => (r.data.toList.take i).all isDig = true) () rfl ⟨rfl, trivial⟩ (.refl _) rfl fun i _ hi hx => Pw.of TP [] ?_
      conv => whnf
      refine ⟨fun hc => ?_, fun hc => ?_⟩ <;> conv => whnf
      · have hi' : i < r.size := by omega
        refine ⟨by omega, by omega, ?_⟩
        conv => whnf
        have hby := by_at hi'
        have hlt : i < r.data.toList.length := by omega
        have htk : r.data.toList.take (i + 1) = r.data.toList.take i ++ [r.data.toList[i]] := List.take_succ_eq_append_getElem hlt
        have hval := valN_lt _ hx
        have hv19 : valN (r.data.toList.take i) 0 < 10 ^ 18 := Nat.lt_of_lt_of_le hval (Nat.pow_le_pow_right (by omega) (by rw [List.length_take]; omega))
        have hmem : r.data.toList[i] ∈ r.data.toList := List.getElem_mem hlt
        generalize r.data.toList[i] = c at hby htk hmem
        rw [hby]
        have hbad : isDig c = false → Fin (fun r' s => r' = AV.t [vI .i64 (readL false r.data.toList).1, vI .i64 (readL false r.data.toList).2] ∧ s = st) (AV.t [vI .i64 0, vI .i64 12]) st := fun hd => by
          refine Fin.old ?_ (.refl _)
          unfold readL
          have hna : ¬ r.data.toList.all isDig = true := fun ha => by
            have := List.all_eq_true.1 ha c hmem
            rw [hd] at this; cases this
          rw [if_neg hN, if_neg hna]
        refine ⟨fun g5 => ?_, fun g5 => ?_⟩ <;> conv => whnf
        · exact hbad (by unfold isDig; rw [decide_eq_false (by omega)]; rfl)
        refine ⟨by omega, by omega, ?_⟩
        conv => whnf
        rw [hby]
        refine ⟨fun g6 => ?_, fun g6 => ?_⟩ <;> conv => whnf
        · exact hbad (by unfold isDig; rw [decide_eq_false (p := c.toNat ≤ 57) (by omega), Bool.and_false])
        refine ⟨by omega, by omega, ?_⟩
        conv => whnf
        refine ⟨rfl, ?_⟩
        conv => whnf
        have hd : isDig c = true := isDig_iff.2 ⟨by omega, by omega⟩
        refine ⟨hi', rfl, ⟨rfl, rfl, rfl, trivial⟩, (), ⟨congrArg (fun x => some (vI .u64 x)) ?_, trivial⟩, .refl _, ?_⟩
        · rw [hby, htk, valN_app]
          show _ = ((valN (r.data.toList.take i) 0 * 10 + (c.toNat - 48) : Nat) : Int)
          have hc8 := c.toNat_lt
          rw [wrapU_id (n := (valN (r.data.toList.take i) 0 : Int) * 10) (by omega) (by omega), wrapB_id (n := (c.toNat : Int) - 48) (by omega) (by omega), wrapU_id (n := (c.toNat : Int) - 48) (by omega) (by omega), wrapU_id (by omega) (by omega)]
          omega
        · rw [htk, List.all_append, hx, List.all_cons, hd]; rfl
      · obtain rfl : i = r.size := by omega
        have htk : r.data.toList.take r.size = r.data.toList := by rw [← hrL, List.take_length]
        rw [htk] at hx
        have hval := valN_lt _ hx
        have hv19 : valN r.data.toList 0 < 10 ^ 19 := Nat.lt_of_lt_of_le hval (Nat.pow_le_pow_right (by omega) (by omega))
        rw [htk]
        have hZ : readL false r.data.toList = (if false = true then (if valN r.data.toList 0 ≤ 9223372036854775808 then (-(valN r.data.toList 0 : Int), 0) else (0, 10)) else (if valN r.data.toList 0 ≤ 9223372036854775807 then ((valN r.data.toList 0 : Int), 0) else (0, 10))) := by
          unfold readL
          rw [if_neg hN, if_pos hx]
        rw [hZ]
        generalize valN r.data.toList 0 = v at hv19 ⊢
        refine ⟨fun g7 => ?_, fun g7 => ?_⟩ <;> conv => whnf
        · refine ⟨rfl, ?_⟩
          conv => whnf
          refine Fin.old ?_ (.refl _)
          have e : (if v ≤ 9223372036854775807 then ((v : Int), (0 : Int)) else (0, 10)) = ((v : Int), 0) := if_pos (by omega)
          rw [if_neg (by decide), e]
          exact congrArg (fun x => AV.t [vI .i64 x, vI .i64 0]) (wrap_id (by omega) (by omega))
        · refine Fin.old ?_ (.refl _)
          have e : (if v ≤ 9223372036854775807 then ((v : Int), (0 : Int)) else (0, 10)) = (0, 10) := if_neg (by omega)
          rw [if_neg (by decide), e]
          rfl
  · have hN : ¬ (r.data.toList = [] ∨ 19 < r.data.toList.length ∨ (r.data.toList.head? = some 48 ∧ (1 < r.data.toList.length ∨ b = true))) := by
      rintro (z | z | z)
      · exact g1 (hrE.1 z)
      · omega
      · exact g3 (h48.2 z.1)
    refine Pw.rngS (τ := Unit) 41 r.size (Nat.le_trans hrs hs) [4, 5, 40] (fun i _ => [(6, vI .u64 (valN (r.data.toList.take i) 0 : Nat))]) (fun _ _ => st) (fun i _ => (r.data.toList.take i).all isDig = true) () rfl ⟨rfl, trivial⟩ (.refl _) rfl fun i _ hi hx => Pw.of TP [] ?_
    conv => whnf
    refine ⟨fun hc => ?_, fun hc => ?_⟩ <;> conv => whnf
    · have hi' : i < r.size := by omega
      refine ⟨by omega, by omega, ?_⟩
      conv => whnf
      have hby := by_at hi'
      have hlt : i < r.data.toList.length := by omega
      have htk : r.data.toList.take (i + 1) = r.data.toList.take i ++ [r.data.toList[i]] := List.take_succ_eq_append_getElem hlt
      have hval := valN_lt _ hx
      have hv19 : valN (r.data.toList.take i) 0 < 10 ^ 18 := Nat.lt_of_lt_of_le hval (Nat.pow_le_pow_right (by omega) (by rw [List.length_take]; omega))
      have hmem : r.data.toList[i] ∈ r.data.toList := List.getElem_mem hlt
      generalize r.data.toList[i] = c at hby htk hmem
      rw [hby]
      have hbad : isDig c = false → Fin (fun r' s => r' = AV.t [vI .i64 (readL b r.data.toList).1, vI .i64 (readL b r.data.toList).2] ∧ s = st) (AV.t [vI .i64 0, vI .i64 12]) st := fun hd => by
        refine Fin.old ?_ (.refl _)
        unfold readL
        have hna : ¬ r.data.toList.all isDig = true := fun ha => by
          have := List.all_eq_true.1 ha c hmem
          rw [hd] at this; cases this
        rw [if_neg hN, if_neg hna]
      refine ⟨fun g5 => ?_, fun g5 => ?_⟩ <;> conv => whnf
      · exact hbad (by unfold isDig; rw [decide_eq_false (by omega)]; rfl)
      refine ⟨by omega, by omega, ?_⟩
      conv => whnf
      rw [hby]
      refine ⟨fun g6 => ?_, fun g6 => ?_⟩ <;> conv => whnf
      · exact hbad (by unfold isDig; rw [decide_eq_false (p := c.toNat ≤ 57) (by omega), Bool.and_false])
      refine ⟨by omega, by omega, ?_⟩
      conv => whnf
      refine ⟨rfl, ?_⟩
      conv => whnf
      have hd : isDig c = true := isDig_iff.2 ⟨by omega, by omega⟩
      refine ⟨hi', rfl, ⟨rfl, rfl, rfl, trivial⟩, (), ⟨congrArg (fun x => some (vI .u64 x)) ?_, trivial⟩, .refl _, ?_⟩
      · rw [hby, htk, valN_app]
        show _ = ((valN (r.data.toList.take i) 0 * 10 + (c.toNat - 48) : Nat) : Int)
        have hc8 := c.toNat_lt
        rw [wrapU_id (n := (valN (r.data.toList.take i) 0 : Int) * 10) (by omega) (by omega), wrapB_id (n := (c.toNat : Int) - 48) (by omega) (by omega), wrapU_id (n := (c.toNat : Int) - 48) (by omega) (by omega), wrapU_id (by omega) (by omega)]
        omega
      · rw [htk, List.all_append, hx, List.all_cons, hd]; rfl
    · obtain rfl : i = r.size := by omega
      have htk : r.data.toList.take r.size = r.data.toList := by rw [← hrL, List.take_length]
      rw [htk] at hx
      have hval := valN_lt _ hx
      have hv19 : valN r.data.toList 0 < 10 ^ 19 := Nat.lt_of_lt_of_le hval (Nat.pow_le_pow_right (by omega) (by omega))
      rw [htk]
      have hZ : readL b r.data.toList = (if b = true then (if valN r.data.toList 0 ≤ 9223372036854775808 then (-(valN r.data.toList 0 : Int), 0) else (0, 10)) else (if valN r.data.toList 0 ≤ 9223372036854775807 then ((valN r.data.toList 0 : Int), 0) else (0, 10))) := by
        unfold readL
        rw [if_neg hN, if_pos hx]
      rw [hZ]
      generalize valN r.data.toList 0 = v at hv19 ⊢
      cases b <;> conv => whnf
      · skip
        refine ⟨fun g7 => ?_, fun g7 => ?_⟩ <;> conv => whnf
        · refine ⟨rfl, ?_⟩
          conv => whnf
          refine Fin.old ?_ (.refl _)
          have e : (if v ≤ 9223372036854775807 then ((v : Int), (0 : Int)) else (0, 10)) = ((v : Int), 0) := if_pos (by omega)
          rw [if_neg (by decide), e]
          exact congrArg (fun x => AV.t [vI .i64 x, vI .i64 0]) (wrap_id (by omega) (by omega))
        · refine Fin.old ?_ (.refl _)
          have e : (if v ≤ 9223372036854775807 then ((v : Int), (0 : Int)) else (0, 10)) = (0, 10) := if_neg (by omega)
          rw [if_neg (by decide), e]
          rfl
      · skip
        refine ⟨fun g7 => ?_, fun g7 => ?_⟩ <;> conv => whnf
        · refine ⟨rfl, ?_⟩
          conv => whnf
          refine Fin.old ?_ (.refl _)
          have e : (if v ≤ 9223372036854775808 then (-(v : Int), (0 : Int)) else (0, 10)) = (-(v : Int), 0) := if_pos (by omega)
          rw [if_pos rfl, e]
          refine congrArg (fun x => AV.t [vI .i64 x, vI .i64 0]) ?_
          exact wrap_neg v (by omega)
        · refine Fin.old ?_ (.refl _)
          have e : (if v ≤ 9223372036854775808 then (-(v : Int), (0 : Int)) else (0, 10)) = (0, 10) := if_neg (by omega)
          rw [if_pos rfl, e]
          rfl
end Go.Proofs.YtnafgpgbedcdnaaDoor.D
namespace Go.Proofs.YtnafgpgbedcdnaaDoor.D
set_option linter.unusedVariables false
set_option linter.unusedSimpArgs false
open Go Go.Proofs.YtnafgpgbedcdnaaDoor.D.Pm
set_option maxRecDepth 4000
/-! ### a text between quotes -/
def quoteL : List UInt8 → List UInt8
  | [] => []
  | c :: l => if c = 39 then 39 :: 39 :: quoteL l else c :: quoteL l
def quoB (s : ByteArray) : ByteArray := ⟨(39 :: (quoteL s.data.toList ++ [39])).toArray⟩
theorem quoteL_app (a b : List UInt8) : quoteL (a ++ b) = quoteL a ++ quoteL b := by
  induction a with
  | nil => rfl
  | cons c a ih =>
    rw [List.cons_append, quoteL, quoteL, ih]
    split <;> rfl
theorem quoteL_no {l : List UInt8} (h : (39 : UInt8) ∉ l) : quoteL l = l := by
  induction l with
  | nil => rfl
  | cons c l ih =>
    rw [quoteL, if_neg (fun e => h (by rw [e]; exact List.mem_cons_self)), ih fun hm => h (List.mem_cons_of_mem _ hm)]
theorem quoteL_len (l : List UInt8) : (quoteL l).length ≤ 2 * l.length := by
  induction l with
  | nil => decide
  | cons c l ih =>
    rw [quoteL]
    split <;> simp <;> omega
theorem index_no {l : List UInt8} {c : UInt8} (h : Lib.indexByte l c < 0) : c ∉ l := by
  induction l with
  | nil => simp
  | cons b l ih =>
    unfold Lib.indexByte at h
    split at h
    · omega
    · rename_i hb
      split at h
      · rename_i he
        have he' : Lib.indexByte l c = -1 := by simpa using he
        have := ih (by omega)
        intro hm
        rcases List.mem_cons.1 hm with e | e
        · subst e; simp at hb
        · exact this e
      · rename_i he
        have := Lib.indexByte_ge l c
        have he' : Lib.indexByte l c ≠ -1 := by simpa using he
        omega
theorem index_at {l : List UInt8} {c : UInt8} (h : ¬ Lib.indexByte l c < 0) : ∃ n : Nat, Lib.indexByte l c = n ∧ n < l.length ∧ c ∉ l.take n ∧ l.drop n = c :: l.drop (n + 1) := by
  induction l with
  | nil => exact absurd (by simp [Lib.indexByte]) h
  | cons b l ih =>
    unfold Lib.indexByte at h ⊢
    split at h
    · rename_i hb
      have hb' : b = c := by simpa using hb
      subst hb'
      exact ⟨0, by simp, by simp, by simp, rfl⟩
    · rename_i hb
      have hb' : b ≠ c := by simpa using hb
      split at h
      · exact absurd (by decide) h
      · rename_i he
        have hge := Lib.indexByte_ge l c
        have he' : Lib.indexByte l c ≠ -1 := by simpa using he
        obtain ⟨n, h1, h2, h3, h4⟩ := ih (by omega)
        refine ⟨n + 1, ?_, by simp; omega, ?_, by simpa using h4⟩
        · rw [if_neg hb, if_neg he, h1]; rfl
        · rw [List.take_succ_cons]
          intro hm
          rcases List.mem_cons.1 hm with e | e
          · exact hb' e.symm
          · exact h3 e
theorem quoteL_at {l : List UInt8} {n : Nat} (h3 : (39 : UInt8) ∉ l.take n) (h4 : l.drop n = 39 :: l.drop (n + 1)) : quoteL l = l.take n ++ 39 :: 39 :: quoteL (l.drop (n + 1)) := by
  have : l = l.take n ++ 39 :: l.drop (n + 1) := by rw [← h4, List.take_append_drop]
  conv => lhs; rw [this]
  rw [quoteL_app, quoteL_no h3, quoteL, if_pos rfl]
theorem byc_ext {s t : ByteArray} (h : s.data.toList = t.data.toList) : byc s = byc t := by unfold byc; rw [h]
theorem byc_app (s : ByteArray) (l : List UInt8) : byc s ++ (l.map fun b => [AC.v (.int .u8 b.toNat)]) = byc ⟨(s.data.toList ++ l).toArray⟩ := by unfold byc; simp
theorem byc_len (s : ByteArray) : (byc s).length = s.size := by unfold byc; simp
def zR : List AC := [AC.v (.int .u8 0)]
def partR (t : ByteArray) (n : Nat) : List (List AC) := List.take 0 (List.replicate (n + 2) zR) ++ List.take (n + 2) (byc (t.extract 0 (n + 1))) ++ List.drop (0 + min (byc (t.extract 0 (n + 1))).length (n + 2)) (List.replicate (n + 2) zR)
theorem partR_eq {t : ByteArray} {n : Nat} (h : n < t.size) : partR t n = byc (t.extract 0 (n + 1)) ++ [zR] := by
  have hl : (byc (t.extract 0 (n + 1))).length = n + 1 := by rw [byc_len, ByteArray.size_extract]; omega
  unfold partR
  rw [hl, List.take_zero, List.nil_append, List.take_of_length_le (by omega), show 0 + min (n + 1) (n + 2) = n + 1 by omega, List.drop_replicate, show n + 2 - (n + 1) = 1 by omega]
  rfl
theorem partR_set {t : ByteArray} {n : Nat} (h : n < t.size) (r : List AC) : List.take (n + 2) ((partR t n).set (0 + (n + 1)) r) = byc (t.extract 0 (n + 1)) ++ [r] := by
  have hl : (byc (t.extract 0 (n + 1))).length = n + 1 := by rw [byc_len, ByteArray.size_extract]; omega
  rw [partR_eq h, Nat.zero_add, List.set_append_right _ _ (by omega), hl, Nat.sub_self]
  rw [List.take_of_length_le (by simp [hl])]
  rfl
set_option maxHeartbeats 1000000 in
theorem vquoted_is (s : ByteArray) (hs : s.size ≤ 1000) : Is Tryd.prog 17 [vS s] (vS (quoB s)) := by
  have hc := count1_is s 39
  have hcl : Lib.countByte s.data.toList 39 ≤ 1000 := by
    unfold Lib.countByte
    have := List.count_le_length (a := (39 : UInt8)) (l := s.data.toList)
    rw [size_list] at this
    omega
  generalize Lib.countByte s.data.toList 39 = cn at hc hcl
  refine Is.of TP Tryd.func17 rfl rfl (Nat.le_of_ble_eq_true rfl) fun st => Pw.of TP [1, 1000012, 1000022] ?_
  conv => whnf
  refine Pw.seq (Pw.regionX TP (sp := fun o env st K => OpOk Tryd.prog _ o env st K) (fun _ _ _ _ h => h) ?_)
  conv => whnf
  refine .inr ?_
  conv => whnf
  refine .inr ?_
  conv => whnf
  refine .inr ?_
  conv => whnf
  refine .inr ?_
  conv => whnf
  refine .inr ?_
  conv => whnf
  refine hc.call ?_
  conv => whnf
  have hw1 : IntKind.i64.wrap (2 + (s.size : Int)) = 2 + s.size := wrap_id (by omega) (by omega)
  have hw2 : IntKind.i64.wrap (IntKind.i64.wrap (2 + (s.size : Int)) + cn) = ((2 + s.size + cn : Nat) : Int) := by rw [hw1, wrap_id (by omega) (by omega)]; omega
  refine .inr ?_
  conv => whnf
  refine .inl ⟨rfl, OpOk.make0 TP rfl rfl rfl rfl rfl rfl (by rw [hw2]; omega) (by rw [hw2]; omega) (by rw [hw2]; unfold maxLen; omega) (by rw [hw2]; show ((1 : Nat) : Int) * _ ≤ _; omega) (by decide) fun id hid => ?_⟩
  conv => whnf
  refine .inr ?_
  conv => whnf
  refine Pw.of TP [1000022] ?_
  conv => whnf
  refine Grow.app (z := ⟨.i .u8, 1, 1, [.int .u8 0]⟩) (st0 := st) (rows := []) ⟨.upd hid, .inr ⟨id, rfl, upd_same _ _ _, hid⟩⟩ (by decide) (by decide) fun a1 st1 hg1 hk1 => ?_
  conv => whnf
  refine Pw.lpS (σ := ByteArray × ByteArray × AC × Sto) [] (fun x => [(0, vS x.1), (3, .c x.2.2.1)]) (fun x => x.2.2.2) (fun x => x.1.size ≤ s.size ∧ Grow st 1 x.2.2.2 x.2.2.1 (byc x.2.1) ∧ x.2.1.data.toList ++ quoteL x.1.data.toList = 39 :: quoteL s.data.toList) (fun x => x.1.size) (s, ⟨#[39]⟩, a1, st1) ⟨rfl, rfl, trivial⟩ (.refl _) ⟨Nat.le_refl _, hg1, rfl⟩ fun x hg => Pw.of TP [1000022] ?_
  obtain ⟨t, acc, a, y⟩ := x
  obtain ⟨hts, hg, hacc⟩ := hg
  dsimp only at hts hg hacc ⊢
  have hacs : acc.size ≤ 2001 := by
    have h1 := congrArg List.length hacc
    rw [List.length_append, size_list] at h1
    have := quoteL_len s.data.toList
    rw [size_list] at this
    simp at h1
    omega
  have hi := idxB_is t 39
  rw [show ((39 : Int).toNat.toUInt8) = (39 : UInt8) from rfl] at hi
  by_cases hneg : Lib.indexByte t.data.toList 39 < 0
  · have hno := index_no hneg
    generalize Lib.indexByte t.data.toList 39 = ix at hi hneg
    conv => whnf
    refine hi.call ?_
    conv => whnf
    refine ⟨fun _ => ?_, fun h => absurd hneg h⟩
    conv => whnf
    refine Grow.app (z := ⟨.i .u8, 1, 1, [.int .u8 0]⟩) hg (by rw [byc_len, byc_len]; unfold maxLen; omega) (by rw [byc_len, byc_len]; show _ * 1 ≤ _; omega) fun a2 st2 hg2 hk2 => ?_
    conv => whnf
    refine Grow.app (z := ⟨.i .u8, 1, 1, [.int .u8 0]⟩) hg2 (by rw [List.length_append, byc_len, byc_len]; unfold maxLen; show _ + 1 ≤ _; omega) (by rw [List.length_append, byc_len, byc_len]; show (_ + 1) * 1 ≤ _; omega) fun a3 st3 hg3 hk3 => ?_
    have hfin : byc acc ++ byc t ++ [[AC.v (.int .u8 39)]] = byc (quoB s) := by
      unfold byc
      rw [← List.map_append, show [[AC.v (.int .u8 39)]] = ([39] : List UInt8).map (fun b => [AC.v (.int .u8 b.toNat)]) from rfl, ← List.map_append]
      congr 1
      rw [← quoteL_no hno] 
      rw [hacc]
      rfl
    rcases hg3.2 with ⟨_, h⟩ | ⟨i3, rfl, hs3, _⟩
    · exact absurd (congrArg List.length h) (by simp)
    conv => whnf
    refine ⟨_, quoB s, hs3, Nat.le_of_eq (Nat.zero_add _), (List.take_length).trans hfin, ?_⟩
    conv => whnf
    exact Fin.old rfl hg3.1
  · obtain ⟨n, e1, h2, h3, h4⟩ := index_at hneg
    rw [e1] at hi
    conv => whnf
    refine hi.call ?_
    conv => whnf
    refine ⟨fun h => absurd h (by omega), fun _ => ?_⟩
    conv => whnf
    have hnt : n < t.size := by rw [size_list] at h2; exact h2
    have hn2 : IntKind.i64.wrap ((n : Int) + 2) = ((n + 2 : Nat) : Int) := by rw [wrap_id (by omega) (by omega)]; rfl
    have hn1 : IntKind.i64.wrap ((n : Int) + 1) = ((n + 1 : Nat) : Int) := by rw [wrap_id (by omega) (by omega)]; rfl
    refine ⟨rfl, by rw [hn2]; omega, by rw [hn2]; omega, by rw [hn2]; unfold maxLen; omega, by rw [hn2]; show ((1 : Nat) : Int) * _ ≤ _; omega, by decide, fun ip hp => ?_⟩
    conv => whnf
    refine ⟨Int.le_refl _, by rw [hn1]; omega, by rw [hn1]; omega, ?_⟩
    conv => whnf
    refine ⟨_, upd_same _ _ _, ?_⟩
    conv => whnf
    refine ⟨by rw [hn2, List.length_replicate]; omega, ?_⟩
    conv => whnf
    refine ⟨by rw [hn1]; omega, by rw [hn1, hn2]; omega, ⟨_, upd_same _ _ _⟩, ?_⟩
    conv => whnf
    refine ⟨_, _, [AC.v (.int .u8 0)], upd_same _ _ _, ?_, Nat.le_of_ble_eq_true rfl, ?_⟩
    · rw [hn1, hn2]
      show (partR t n)[0 + (n + 1)]? = some zR
      have hl : (byc (t.extract 0 (n + 1))).length = n + 1 := by rw [byc_len, ByteArray.size_extract]; omega
      rw [partR_eq hnt, Nat.zero_add, List.getElem?_append_right (by omega), hl, Nat.sub_self]
      rfl
    conv => whnf
    have hl : (byc (t.extract 0 (n + 1))).length = n + 1 := by rw [byc_len, ByteArray.size_extract]; omega
    have h39 : ∀ r, ((partR t n).set (0 + (n + 1)) r).length = n + 2 := fun r => by rw [List.length_set, partR_eq hnt, List.length_append, hl]; rfl
    refine ⟨_, upd_same _ _ _, ?_, ?_⟩
    · rw [hn1, hn2, Nat.zero_add]
      exact Nat.le_of_eq (h39 _).symm
    have hg2 : ∀ o1 o2 o3, Grow st 1 (upd (upd (upd y ip o1) ip o2) ip o3) a (byc acc) := fun o1 o2 o3 => by
      refine ⟨fun i o hi => ?_, ?_⟩
      · have : i ≠ ip := fun e => by subst e; rw [hg.1 _ _ hi] at hp; cases hp
        rw [upd_ne _ this, upd_ne _ this, upd_ne _ this]; exact hg.1 _ _ hi
      · rcases hg.2 with h | ⟨i, h1, h2, h3⟩
        · exact .inl h
        · have : i ≠ ip := fun e => by subst e; rw [h2] at hp; cases hp
          exact .inr ⟨i, h1, by rw [upd_ne _ this, upd_ne _ this, upd_ne _ this]; exact h2, h3⟩
    have hys : ∀ r, List.take (IntKind.i64.wrap ((n : Int) + 2)).toNat (List.drop 0 ((List.take 0 (List.replicate (IntKind.i64.wrap ((n : Int) + 2)).toNat zR) ++ List.take (IntKind.i64.wrap ((n : Int) + 2)).toNat (byc (t.extract (Int.toNat 0) (IntKind.i64.wrap ((n : Int) + 1)).toNat)) ++ List.drop (0 + min (byc (t.extract (Int.toNat 0) (IntKind.i64.wrap ((n : Int) + 1)).toNat)).length (IntKind.i64.wrap ((n : Int) + 2)).toNat) (List.replicate (IntKind.i64.wrap ((n : Int) + 2)).toNat zR)).set (0 + (IntKind.i64.wrap ((n : Int) + 1)).toNat) r)) = byc (t.extract 0 (n + 1)) ++ [r] := fun r => by
      rw [hn1, hn2]
      exact partR_set hnt r
    refine Grow.app (z := ⟨.i .u8, 1, 1, [.int .u8 0]⟩) (hg2 _ _ _) ?_ ?_ fun a2 st2 hg3 hk2 => ?_
    · have := congrArg List.length (hys [AC.v (.int .u8 39)])
      refine Nat.le_trans (Nat.le_of_eq (congrArg ((byc acc).length + ·) this)) ?_
      rw [byc_len, List.length_append, hl]; unfold maxLen; show _ + (_ + 1) ≤ _; omega
    · have := congrArg List.length (hys [AC.v (.int .u8 39)])
      refine Nat.le_trans (Nat.le_of_eq (congrArg (fun x => ((byc acc).length + x) * 1) this)) ?_
      rw [byc_len, List.length_append, hl]; show (_ + (_ + 1)) * 1 ≤ _; omega
    have hg4 : Grow st 1 st2 a2 (byc ⟨(acc.data.toList ++ (t.data.toList.take (n + 1) ++ [39])).toArray⟩) := by
      have e : byc acc ++ (byc (t.extract 0 (n + 1)) ++ [[AC.v (.int .u8 39)]]) = byc ⟨(acc.data.toList ++ (t.data.toList.take (n + 1) ++ [39])).toArray⟩ := by
        unfold byc
        rw [ext_list]
        simp
      rw [← e, ← hys]
      exact hg3
    conv => whnf
    refine ⟨by rw [hn1]; omega, by rw [hn1]; omega, Int.le_refl _, ?_⟩
    conv => whnf
    have hex : (t.extract (IntKind.i64.wrap ((n : Int) + 1)).toNat ((t.size : Int)).toNat).data.toList = t.data.toList.drop (n + 1) := by
      rw [hn1, ext_list, show ((t.size : Int)).toNat = t.data.toList.length by simp, List.take_length]
      rfl
    refine ⟨trivial, (t.extract (IntKind.i64.wrap ((n : Int) + 1)).toNat ((t.size : Int)).toNat, ⟨(acc.data.toList ++ (t.data.toList.take (n + 1) ++ [39])).toArray⟩, a2, st2), ⟨rfl, rfl, trivial⟩, .refl _, ⟨?_, hg4, ?_⟩, ?_⟩
    · rw [ByteArray.size_extract]; omega
    · dsimp only
      rw [hex, ← hacc, quoteL_at h3 h4]
      have : t.data.toList.take (n + 1) = t.data.toList.take n ++ [39] := by
        have h5 := List.take_succ_eq_append_getElem h2
        have h6 : t.data.toList[n] = 39 := by
          have := congrArg List.head? h4
          rw [List.head?_drop] at this
          exact (List.getElem?_eq_some_iff.1 this).2
        rw [h5, h6]
      rw [this]
      simp
    · show (t.extract _ _).size < t.size
      rw [ByteArray.size_extract, hn1]; omega
end Go.Proofs.YtnafgpgbedcdnaaDoor.D
namespace Go.Proofs.YtnafgpgbedcdnaaDoor.D
set_option linter.unusedVariables false
set_option linter.unusedSimpArgs false
open Go Go.Proofs.YtnafgpgbedcdnaaDoor.D.Pm
set_option maxRecDepth 4000
/-! ### values and their texts, in plain words -/
def rep2 (new : List UInt8) : List UInt8 → List UInt8
  | [] => []
  | [c] => [c]
  | c :: d :: l => if c = 39 ∧ d = 39 then new ++ rep2 new l else c :: rep2 new (d :: l)
abbrev qq : List UInt8 := [39, 39]
theorem index_qq (c d : UInt8) (l : List UInt8) : Lib.index (c :: d :: l) qq = if c = 39 ∧ d = 39 then 0 else if Lib.index (d :: l) qq = -1 then -1 else Lib.index (d :: l) qq + 1 := by
  conv => lhs; unfold Lib.index
  have e : (qq.isPrefixOf (c :: d :: l)) = decide (c = 39 ∧ d = 39) := by
    rw [Bool.eq_iff_iff]
    simp only [List.isPrefixOf, Bool.and_true, Bool.and_eq_true, beq_iff_eq, decide_eq_true_eq]
    exact ⟨fun ⟨a, b⟩ => ⟨a.symm, b.symm⟩, fun ⟨a, b⟩ => ⟨a.symm, b.symm⟩⟩
  rw [e]
  by_cases h : c = 39 ∧ d = 39
  · rw [if_pos h, if_pos (decide_eq_true h)]
  · rw [if_neg h, if_neg (by simpa using h)]
    by_cases h2 : Lib.index (d :: l) qq = -1
    · rw [if_pos h2, if_pos (by simpa using h2)]
    · rw [if_neg h2, if_neg (by simpa using h2)]
theorem index_qq1 (c : UInt8) : Lib.index [c] qq = -1 := by simp [Lib.index, List.isPrefixOf]
theorem rep2_miss (new : List UInt8) : ∀ l, Lib.index l qq = -1 → rep2 new l = l
  | [], _ => rfl
  | [c], _ => rfl
  | c :: d :: l, h => by
    rw [index_qq] at h
    rw [rep2]
    split at h
    · exact absurd h (by decide)
    · rename_i hc
      rw [if_neg hc]
      split at h
      · rename_i h2
        rw [rep2_miss new (d :: l) h2]
      · rename_i h2
        have := Lib.index_ge (d :: l) qq
        omega
theorem rep2_hit (new : List UInt8) : ∀ (l : List UInt8) (i : Nat), Lib.index l qq = i → rep2 new l = l.take i ++ new ++ rep2 new (l.drop (i + 2))
  | [], i, h => by simp [Lib.index] at h
  | [c], i, h => by rw [index_qq1] at h; omega
  | c :: d :: l, i, h => by
    rw [index_qq] at h
    rw [rep2]
    split at h
    · rename_i hc
      obtain rfl : i = 0 := by omega
      rw [if_pos hc]
      rfl
    · rename_i hc
      rw [if_neg hc]
      split at h
      · omega
      · rename_i h2
        have hge := Lib.index_ge (d :: l) qq
        obtain ⟨j, rfl⟩ : ∃ j, i = j + 1 := ⟨i - 1, by omega⟩
        rw [rep2_hit new (d :: l) j (by omega)]
        rfl
theorem replaceK_rep2 (new : List UInt8) : ∀ (n : Nat) (l : List UInt8), l.length ≤ n → Lib.replaceK qq new (Lib.count l qq) l = rep2 new l := by
  intro n
  induction n with
  | zero =>
    intro l h
    obtain rfl : l = [] := List.length_eq_zero_iff.1 (by omega)
    rfl
  | succ n ih =>
    intro l h
    by_cases hm : Lib.index l qq = -1
    · rw [Lib.count_miss hm, Lib.replaceK, rep2_miss new l hm]
    · have hge := Lib.index_ge l qq
      obtain ⟨i, hi⟩ : ∃ i : Nat, Lib.index l qq = i := ⟨(Lib.index l qq).toNat, by omega⟩
      rw [Lib.count_hit (by simp) hi, Nat.add_comm, Lib.replaceK_hit _ _ _ _ _ hi, rep2_hit new l i hi]
      have hl : (l.drop (i + qq.length)).length ≤ n := by
        rw [List.length_drop]
        have : qq.length = 2 := rfl
        omega
      rw [ih _ hl]
      rfl
theorem replaceAll_rep2 (l new : List UInt8) (h : new ≠ qq) : Lib.replaceAll l qq new = rep2 new l := by
  unfold Lib.replaceAll Lib.replace
  rw [if_neg (by simpa using fun e => h e.symm)]
  have : Lib.replaceNum l qq (-1) = Lib.count l qq := by
    unfold Lib.replaceNum
    rw [if_pos (.inl (by decide))]
  rw [this]
  exact replaceK_rep2 new _ l (Nat.le_refl _)
theorem rep2_ne (new : List UInt8) {c : UInt8} (h : c ≠ 39) : ∀ l, rep2 new (c :: l) = c :: rep2 new l
  | [] => rfl
  | d :: l => by rw [rep2, if_neg (fun e => h e.1)]
theorem rep2_quote (new : List UInt8) : ∀ t, rep2 new (quoteL t) = (t.map fun c => if c = 39 then new else [c]).flatten
  | [] => rfl
  | c :: t => by
    rw [quoteL]
    by_cases h : c = 39
    · rw [if_pos h, rep2, if_pos ⟨rfl, rfl⟩, rep2_quote new t]
      simp [h]
    · rw [if_neg h, rep2_ne new h, rep2_quote new t]
      simp [h]
theorem rep2_back (t : List UInt8) : rep2 [39] (quoteL t) = t := by
  rw [rep2_quote]
  induction t with
  | nil => rfl
  | cons c t ih =>
    by_cases h : c = 39
    · simp [h, ih]
    · simp [h, ih]
theorem rep2_none (t : List UInt8) : (39 : UInt8) ∉ rep2 [] (quoteL t) := by
  rw [rep2_quote]
  induction t with
  | nil => simp
  | cons c t ih =>
    by_cases h : c = 39
    · simp only [List.map_cons, List.flatten_cons, if_pos h]; simpa using ih
    · simp only [List.map_cons, List.flatten_cons, if_neg h]
      intro hm
      rcases List.mem_cons.1 hm with e | e
      · exact h e.symm
      · exact ih e
theorem quote_rep2 : ∀ l, (39 : UInt8) ∉ rep2 [] l → quoteL (rep2 [39] l) = l
  | [], _ => rfl
  | [c], h => by
    have : c ≠ 39 := fun e => h (by rw [e]; exact List.mem_cons_self)
    show quoteL [c] = [c]
    rw [quoteL, if_neg this]; rfl
  | c :: d :: l, h => by
    rw [rep2] at h ⊢
    by_cases hc : c = 39 ∧ d = 39
    · rw [if_pos hc] at h ⊢
      have := quote_rep2 l h
      show quoteL (39 :: rep2 [39] l) = _
      rw [quoteL, if_pos rfl, this, hc.1, hc.2]
    · rw [if_neg hc] at h ⊢
      have hc9 : c ≠ 39 := fun e => h (by rw [e]; exact List.mem_cons_self)
      rw [quoteL, if_neg hc9, quote_rep2 (d :: l) fun hm => h (List.mem_cons_of_mem _ hm)]
def nullB : ByteArray := ⟨#[78, 85, 76, 76]⟩
def trueB : ByteArray := ⟨#[84, 82, 85, 69]⟩
def falseB : ByteArray := ⟨#[70, 65, 76, 83, 69]⟩
def zeroV : Val := ⟨0, 0, ⟨#[]⟩⟩
/-- a value's text -/
def showV (v : Val) : ByteArray :=
  if v.k = 0 then nullB else if v.k = 1 then digB v.n else if v.k = 2 then (if v.n = 1 then trueB else falseB) else if v.k = 3 then quoB v.s else ⟨#[]⟩
def innB (s : ByteArray) : ByteArray := s.extract 1 (s.size - 1)
/-- the text between quotes -/
def unqV (s : ByteArray) : Val × Int :=
  if s.size < 2 ∨ s.data.toList.head? ≠ some 39 ∨ s.data.toList.getLast? ≠ some 39 then (zeroV, 12)
  else if (39 : UInt8) ∈ rep2 [] (innB s).data.toList ∨ plain (innB s) = false then (zeroV, 12)
  else if 32 < (rep2 [39] (innB s).data.toList).length then (zeroV, 3)
  else (⟨3, 0, ⟨(rep2 [39] (innB s).data.toList).toArray⟩⟩, 0)
/-- a text's value -/
def readV (s : ByteArray) : Val × Int :=
  if s = nullB then (zeroV, 0) else if s = trueB then (⟨2, 1, ⟨#[]⟩⟩, 0) else if s = falseB then (⟨2, 0, ⟨#[]⟩⟩, 0)
  else if s.data.toList.head? = some 39 then unqV s
  else if (readZ s).2 = 0 then (⟨1, (readZ s).1, ⟨#[]⟩⟩, 0) else (zeroV, (readZ s).2)
theorem quoB_list (s : ByteArray) : (quoB s).data.toList = 39 :: (quoteL s.data.toList ++ [39]) := rfl
theorem innB_quo (s : ByteArray) : (innB (quoB s)).data.toList = quoteL s.data.toList := by
  unfold innB
  rw [ext_list, quoB_list]
  have : (quoB s).size = (quoteL s.data.toList).length + 2 := by
    show (39 :: (quoteL s.data.toList ++ [39])).length = _
    simp
  rw [this, show (quoteL s.data.toList).length + 2 - 1 = (quoteL s.data.toList).length + 1 by omega, List.take_succ_cons, List.take_append_of_le_length (Nat.le_refl _), List.take_length]
  rfl
theorem allB_iff (s : ByteArray) (p : Int → Bool) : ∀ n k, s.size - k ≤ n → (allB s k p = true ↔ ∀ i, k ≤ i → i < s.size → p (by_ s (i : Nat)) = true) := by
  intro n
  induction n with
  | zero =>
    intro k h
    rw [allB_end (by omega)]
    exact ⟨fun _ i h1 h2 => by omega, fun _ => rfl⟩
  | succ n ih =>
    intro k h
    by_cases hk : k < s.size
    · rw [allB_on hk, Bool.and_eq_true, ih (k + 1) (by omega)]
      refine ⟨fun ⟨h1, h2⟩ i h3 h4 => ?_, fun h1 => ⟨h1 k (Nat.le_refl _) hk, fun i h3 h4 => h1 i (by omega) h4⟩⟩
      rcases Nat.eq_or_lt_of_le h3 with e | e
      · subst e; exact h1
      · exact h2 i e h4
    · rw [allB_end hk]
      exact ⟨fun _ i h1 h2 => by omega, fun _ => rfl⟩
theorem plain_iff (s : ByteArray) : plain s = true ↔ ∀ c ∈ s.data.toList, 32 ≤ c.toNat ∧ c.toNat ≤ 126 := by
  unfold plain
  rw [allB_iff s _ s.size 0 (by omega)]
  constructor
  · intro h c hc
    obtain ⟨i, hi⟩ := List.getElem?_of_mem hc
    obtain ⟨h1, h2⟩ := by_get hi
    have := of_decide_eq_true (h i (Nat.zero_le _) h1)
    rw [h2] at this
    omega
  · intro h i _ hi
    rw [by_at hi]
    have := h _ (List.getElem_mem (by rw [size_list]; exact hi))
    exact decide_eq_true (by omega)
theorem quoteL_mem {l : List UInt8} {c : UInt8} (h : c ∈ quoteL l) : c ∈ l := by
  induction l with
  | nil => exact h
  | cons d l ih =>
    rw [quoteL] at h
    split at h
    · rename_i hd
      rcases List.mem_cons.1 h with e | e
      · rw [e, hd]; exact List.mem_cons_self
      · rcases List.mem_cons.1 e with e | e
        · rw [e, hd]; exact List.mem_cons_self
        · exact List.mem_cons_of_mem _ (ih e)
    · rcases List.mem_cons.1 h with e | e
      · rw [e]; exact List.mem_cons_self
      · exact List.mem_cons_of_mem _ (ih e)
theorem mem_quoteL {l : List UInt8} {c : UInt8} (h : c ∈ l) : c ∈ quoteL l := by
  induction l with
  | nil => exact h
  | cons d l ih =>
    rw [quoteL]
    split
    · rename_i hd
      rcases List.mem_cons.1 h with e | e
      · rw [e, hd]; exact List.mem_cons_self
      · exact List.mem_cons_of_mem _ (List.mem_cons_of_mem _ (ih e))
    · rcases List.mem_cons.1 h with e | e
      · rw [e]; exact List.mem_cons_self
      · exact List.mem_cons_of_mem _ (ih e)
theorem unq_quo (s : ByteArray) (h32 : s.size ≤ 32) (hp : plain s = true) : unqV (quoB s) = (⟨3, 0, s⟩, 0) := by
  unfold unqV
  have hz : (quoB s).size = (quoteL s.data.toList).length + 2 := by
    show (39 :: (quoteL s.data.toList ++ [39])).length = _
    simp
  have hpl : plain (innB (quoB s)) = true := by
    rw [plain_iff] at hp ⊢
    rw [innB_quo]
    exact fun c hc => hp c (quoteL_mem hc)
  rw [if_neg, innB_quo, if_neg, if_neg, rep2_back]
  · rw [rep2_back, size_list]; omega
  · rintro (h | h)
    · exact rep2_none _ h
    · rw [hpl] at h; cases h
  · rw [quoB_list]
    rintro (h | h | h)
    · omega
    · exact h rfl
    · exact h (by rw [← List.cons_append, List.getLast?_append]; rfl)
theorem quo_unq {s : ByteArray} {v : Val} (h : unqV s = (v, 0)) : v.k = 3 ∧ v.n = 0 ∧ v.s.size ≤ 32 ∧ plain v.s = true ∧ quoB v.s = s := by
  unfold unqV at h
  split at h
  · exact absurd (Prod.mk.inj h).2 (by decide)
  rename_i h1
  split at h
  · exact absurd (Prod.mk.inj h).2 (by decide)
  rename_i h2
  split at h
  · exact absurd (Prod.mk.inj h).2 (by decide)
  rename_i h3
  obtain rfl := (Prod.mk.inj h).1
  have hq := quote_rep2 _ (fun hm => h2 (.inl hm))
  have hpl : plain (innB s) = true := by
    cases hp : plain (innB s) with
    | true => rfl
    | false => exact absurd (.inr hp) h2
  have hs2 : 2 ≤ s.size := Nat.le_of_not_lt fun e => h1 (.inl e)
  have hh : s.data.toList.head? = some 39 := Classical.byContradiction fun e => h1 (.inr (.inl e))
  have hla : s.data.toList.getLast? = some 39 := Classical.byContradiction fun e => h1 (.inr (.inr e))
  refine ⟨rfl, rfl, by show (rep2 [39] (innB s).data.toList).length ≤ 32; omega, ?_, ?_⟩
  · rw [plain_iff] at hpl ⊢
    exact fun c hc => hpl c (by rw [← hq]; exact mem_quoteL hc)
  · apply ba_ext
    rw [quoB_list]
    show 39 :: (quoteL (rep2 [39] (innB s).data.toList) ++ [39]) = _
    rw [hq]
    unfold innB
    rw [ext_list]
    obtain ⟨a, l, e⟩ : ∃ a l, s.data.toList = a :: l := by
      cases hl : s.data.toList with
      | nil => rw [hl] at hh; cases hh
      | cons a l => exact ⟨a, l, rfl⟩
    have hsz : s.size = l.length + 1 := by rw [← size_list, e]; rfl
    rw [e] at hh hla ⊢
    obtain rfl : a = 39 := by simpa using hh
    rw [hsz, show l.length + 1 - 1 = (l.length - 1) + 1 by omega, List.take_succ_cons, List.drop_one, List.tail_cons]
    have hl2 : l ≠ [] := fun e => by rw [e] at hsz; simp at hsz; omega
    rw [← List.dropLast_eq_take]
    have hla2 : l.getLast? = some 39 := by
      rw [List.getLast?_cons] at hla
      cases hg : l.getLast? with
      | none => rw [List.getLast?_eq_none_iff] at hg; exact absurd hg hl2
      | some x => rw [hg] at hla; simpa using hla
    congr 1
    rw [List.getLast?_eq_some_getLast hl2] at hla2
    have := List.dropLast_concat_getLast hl2
    rw [Option.some.inj hla2] at this
    exact this
theorem readV_show {v : Val} (h64 : in64 v.n) (h : vright v = true) : readV (showV v) = (v, 0) := by
  obtain ⟨k, n, s⟩ := v
  unfold vright at h
  dsimp only at h h64
  by_cases h0 : k = 0
  · rw [if_pos h0] at h
    obtain ⟨rfl, rfl⟩ := of_decide_eq_true h
    subst h0; rfl
  rw [if_neg h0] at h
  by_cases h1 : k = 1
  · rw [if_pos h1] at h
    obtain rfl := of_decide_eq_true h
    subst h1
    have hz := readZ_dig h64
    have hlen := digZ_len h64
    have hs : showV ⟨1, n, ⟨#[]⟩⟩ = digB n := rfl
    rw [hs]
    have hne : ∀ t : ByteArray, readZ t ≠ (n, 0) → digB n ≠ t := fun t ht e => ht (by rw [← e]; exact hz)
    unfold readV
    rw [if_neg, if_neg, if_neg, if_neg, hz, if_pos rfl]
    · intro e
      have : readZ (digB n) = (0, 12) := by
        unfold readZ readL'
        rw [if_neg (by rw [e]; decide)]
        unfold readL
        split
        · rfl
        · split
          · rename_i ha
            exfalso
            cases hl : (digB n).data.toList with
            | nil => rw [hl] at e; cases e
            | cons c l =>
              rw [hl] at e ha
              obtain rfl : c = 39 := by simpa using e
              simp [isDig] at ha
          · rfl
      rw [hz] at this
      cases this
    · exact hne _ fun e => absurd (show (readZ falseB).2 = 0 from congrArg Prod.snd e) (by decide)
    · exact hne _ fun e => absurd (show (readZ trueB).2 = 0 from congrArg Prod.snd e) (by decide)
    · exact hne _ fun e => absurd (show (readZ nullB).2 = 0 from congrArg Prod.snd e) (by decide)
  rw [if_neg h1] at h
  by_cases h2 : k = 2
  · rw [if_pos h2] at h
    obtain ⟨rfl, hn⟩ := of_decide_eq_true h
    subst h2
    rcases hn with rfl | rfl <;> rfl
  rw [if_neg h2] at h
  by_cases h3 : k = 3
  · rw [if_pos h3, Bool.and_eq_true] at h
    obtain ⟨⟨rfl, hz⟩, hp⟩ := And.imp_left of_decide_eq_true h
    subst h3
    have hs : showV ⟨3, 0, s⟩ = quoB s := rfl
    rw [hs]
    unfold readV
    have hh : (quoB s).data.toList.head? = some 39 := rfl
    have hne : ∀ t : ByteArray, t.data.toList.head? ≠ some 39 → quoB s ≠ t := fun t ht e => ht (by rw [← e]; rfl)
    rw [if_neg (hne _ (by decide)), if_neg (hne _ (by decide)), if_neg (hne _ (by decide)), if_pos hh, unq_quo s hz hp]
  · rw [if_neg h3] at h; cases h
theorem show_readV {s : ByteArray} {v : Val} (h : readV s = (v, 0)) : vright v = true ∧ showV v = s := by
  unfold readV at h
  split at h
  · rename_i e; cases h; subst e; exact ⟨by decide, rfl⟩
  split at h
  · rename_i e; cases h; subst e; exact ⟨by decide, rfl⟩
  split at h
  · rename_i e; cases h; subst e; exact ⟨by decide, rfl⟩
  split at h
  · obtain ⟨h1, h2, h3, h4, h5⟩ := quo_unq h
    obtain ⟨k, n, t⟩ := v
    dsimp only at h1 h2 h3 h4 h5
    subst h1; subst h2
    refine ⟨?_, h5⟩
    unfold vright
    rw [if_neg (show ¬ (3 : Int) = 0 by decide), if_neg (show ¬ (3 : Int) = 1 by decide), if_neg (show ¬ (3 : Int) = 2 by decide), if_pos rfl]
    simp [h3, h4]
  split at h
  · rename_i hz
    have hz' : readZ s = ((readZ s).1, 0) := by rw [← hz]
    obtain ⟨k1, k2⟩ := digB_read hz'
    cases h
    exact ⟨by unfold vright; simp, k2⟩
  · rename_i hz
    exact absurd (Prod.mk.inj h).2 hz
end Go.Proofs.YtnafgpgbedcdnaaDoor.D
namespace Go.Proofs.YtnafgpgbedcdnaaDoor.D
set_option linter.unusedVariables false
set_option linter.unusedSimpArgs false
open Go Go.Proofs.YtnafgpgbedcdnaaDoor.D.Pm
set_option maxRecDepth 4000
theorem vshow_is (v : Val) (h64 : in64 v.n) (hs : v.s.size ≤ 1000) : Is Tryd.prog 8 [.g (eV v)] (vS (showV v)) := by
  have hd := digits_is v.n h64
  have hq := vquoted_is v.s hs
  refine Is.of TP Tryd.func8 rfl rfl (Nat.le_of_ble_eq_true rfl) fun st => Pw.of TP [] ?_
  conv => whnf
  refine ⟨fun h => ?_, fun h => ?_⟩ <;> conv => whnf
  · exact Fin.old (congrArg vS (by unfold showV; rw [if_pos h]; rfl)) (.refl _)
  refine ⟨fun h1 => ?_, fun h1 => ?_⟩ <;> conv => whnf
  · refine hd.call ?_
    conv => whnf
    exact Fin.old (congrArg vS (by unfold showV; rw [if_neg h, if_pos h1])) (.refl _)
  refine ⟨fun h2 => ?_, fun h2 => ?_⟩ <;> conv => whnf
  · refine ⟨fun h3 => ?_, fun h3 => ?_⟩ <;> conv => whnf
    · exact Fin.old (congrArg vS (by unfold showV; rw [if_neg h, if_neg h1, if_pos h2, if_pos h3]; rfl)) (.refl _)
    · exact Fin.old (congrArg vS (by unfold showV; rw [if_neg h, if_neg h1, if_pos h2, if_neg h3]; rfl)) (.refl _)
  refine ⟨fun h3 => ?_, fun h3 => ?_⟩ <;> conv => whnf
  · refine hq.call ?_
    conv => whnf
    exact Fin.old (congrArg vS (by unfold showV; rw [if_neg h, if_neg h1, if_neg h2, if_pos h3])) (.refl _)
  · exact Fin.old (congrArg vS (by unfold showV; rw [if_neg h, if_neg h1, if_neg h2, if_neg h3])) (.refl _)
set_option maxHeartbeats 1000000 in
theorem unq_does (s : ByteArray) (hs : s.size ≤ 1000) {st : Sto} {id : Nat} {m : Int} (hm : MaxL st id m) : Does Tryd.prog 14 [vS s] st fun r s' => r = .t [.g (eV (unqV s).1), vI .i64 (unqV s).2] ∧ s' = st := by
  have hp := plain_is (innB s) (by unfold innB; rw [ByteArray.size_extract]; unfold Big; omega)
  have hzi : (innB s).size ≤ 1000 := by unfold innB; rw [ByteArray.size_extract]; omega
  have hcnt : Lib.countB (innB s) ⟨#[39, 39]⟩ ≤ 1001 := by
    have := Lib.count_le (innB s).data.toList [39, 39]
    rw [size_list] at this
    exact Nat.le_trans this (by omega)
  have r1 : ∀ st, MaxL st id m → Does Tryd.prog 24 [vS (innB s), vS ⟨#[39, 39]⟩, vS ⟨#[]⟩] st fun r s' => r = vS ⟨(rep2 [] (innB s).data.toList).toArray⟩ ∧ s' = st := fun st hm => (repl_does hm (innB s) ⟨#[39, 39]⟩ ⟨#[]⟩ (by omega) (by decide) (by show _ + _ * 0 ≤ _; omega)).mono fun r s' h => ⟨by rw [h.1]; exact congrArg (fun x : List UInt8 => vS ⟨x.toArray⟩) (replaceAll_rep2 _ [] (by decide)), h.2⟩
  have r2 : ∀ st, MaxL st id m → Does Tryd.prog 24 [vS (innB s), vS ⟨#[39, 39]⟩, vS ⟨#[39]⟩] st fun r s' => r = vS ⟨(rep2 [39] (innB s).data.toList).toArray⟩ ∧ s' = st := fun st hm => (repl_does hm (innB s) ⟨#[39, 39]⟩ ⟨#[39]⟩ (by omega) (by decide) (by show _ + _ * 1 ≤ _; omega)).mono fun r s' h => ⟨by rw [h.1]; exact congrArg (fun x : List UInt8 => vS ⟨x.toArray⟩) (replaceAll_rep2 _ [39] (by decide)), h.2⟩
  have hc := cont1_is ⟨(rep2 [] (innB s).data.toList).toArray⟩ 39
  have hcm : decide (0 ≤ Lib.indexByte (rep2 [] (innB s).data.toList) 39) = decide ((39 : UInt8) ∈ rep2 [] (innB s).data.toList) := by
    by_cases h : Lib.indexByte (rep2 [] (innB s).data.toList) 39 < 0
    · rw [decide_eq_false (by omega), decide_eq_false (index_no h)]
    · rw [decide_eq_true (by omega), decide_eq_true]
      obtain ⟨n, h1, h2, h3, h4⟩ := index_at h
      exact List.mem_of_mem_drop (i := n) (by rw [h4]; exact List.mem_cons_self)
  rw [show (⟨(rep2 [] (innB s).data.toList).toArray⟩ : ByteArray).data.toList = rep2 [] (innB s).data.toList from rfl, hcm] at hc
  have hb0 : ∀ h : 0 < s.size, (by_ s 0 = 39 ↔ s.data.toList.head? = some 39) := fun h => by
    rw [show (0 : Int) = ((0 : Nat) : Int) from rfl, by_at h, List.head?_eq_getElem?, List.getElem?_eq_getElem (by rw [size_list]; exact h), Option.some.injEq]
    exact byte_eq (n := 39) (by omega)
  have hb1 : ∀ h : 0 < s.size, (by_ s (IntKind.i64.wrap ((s.size : Int) - 1)) = 39 ↔ s.data.toList.getLast? = some 39) := fun h => by
    rw [wrap_id (by omega) (by omega), show ((s.size : Int) - 1) = ((s.size - 1 : Nat) : Int) by omega, by_at (by omega), List.getLast?_eq_getElem?, List.getElem?_eq_getElem (by rw [size_list]; omega), Option.some.injEq]
    simp only [size_list]
    exact byte_eq (n := 39) (by omega)
  have hin : s.extract (Int.toNat 1) (IntKind.i64.wrap ((s.size : Int) - 1)).toNat = innB s := by
    unfold innB
    rw [wrap_id (by omega) (by omega), show ((s.size : Int) - 1).toNat = s.size - 1 by omega]
    rfl
  refine Does.of TP Tryd.func14 rfl rfl (Nat.le_of_ble_eq_true rfl) (Pw.of TP [] ?_)
  conv => whnf
  intro ib hb
  conv => whnf
  refine ⟨fun h => ?_, fun h0 => ?_⟩ <;> conv => whnf
  · skip
    refine ⟨_, upd_same _ _ _, Nat.le_of_ble_eq_true rfl, ?_⟩
    conv => whnf
    refine ⟨_, upd_same _ _ _, ?_⟩
    conv => whnf
    have hu : unqV s = (zeroV, 12) := by unfold unqV; rw [if_pos (.inl (by omega))]
    exact Fin.same rfl (((Le.refl st).up2 hb).up2 hb) ⟨by rw [hu]; rfl, rfl⟩
  have hpos : 0 < s.size := by omega
  refine ⟨Int.le_refl _, by omega, ?_⟩
  conv => whnf
  refine ⟨fun h => ?_, fun h1 => ?_⟩ <;> conv => whnf
  · skip
    refine ⟨_, upd_same _ _ _, Nat.le_of_ble_eq_true rfl, ?_⟩
    conv => whnf
    refine ⟨_, upd_same _ _ _, ?_⟩
    conv => whnf
    have hu : unqV s = (zeroV, 12) := by unfold unqV; rw [if_pos (.inr (.inl fun e => h ((hb0 hpos).2 e)))]
    exact Fin.same rfl (((Le.refl st).up2 hb).up2 hb) ⟨by rw [hu]; rfl, rfl⟩
  refine ⟨by rw [wrap_id (by omega) (by omega)]; omega, by rw [wrap_id (by omega) (by omega)]; omega, ?_⟩
  conv => whnf
  refine ⟨fun h => ?_, fun h2 => ?_⟩ <;> conv => whnf
  · skip
    refine ⟨_, upd_same _ _ _, Nat.le_of_ble_eq_true rfl, ?_⟩
    conv => whnf
    refine ⟨_, upd_same _ _ _, ?_⟩
    conv => whnf
    have hu : unqV s = (zeroV, 12) := by unfold unqV; rw [if_pos (.inr (.inr fun e => h ((hb1 hpos).2 e)))]
    exact Fin.same rfl (((Le.refl st).up2 hb).up2 hb) ⟨by rw [hu]; rfl, rfl⟩
  have hN : ¬ (s.size < 2 ∨ s.data.toList.head? ≠ some 39 ∨ s.data.toList.getLast? ≠ some 39) := by
    rintro (e | e | e)
    · omega
    · exact e ((hb0 hpos).1 (Classical.not_not.1 h1))
    · exact e ((hb1 hpos).1 (Classical.not_not.1 h2))
  refine ⟨by decide, by rw [wrap_id (by omega) (by omega)]; omega, by rw [wrap_id (by omega) (by omega)]; omega, ?_⟩
  conv => whnf
  rw [hin]
  refine (r1 _ (upd_old hb hm)).mono fun r s1 h1 => ?_
  obtain ⟨rfl, rfl⟩ := h1
  conv => whnf
  refine Is.callB hc fun b hbb => ?_
  cases b <;> conv => whnf
  rotate_left
  · have hmem := of_decide_eq_true hbb
    refine ⟨_, upd_same _ _ _, Nat.le_of_ble_eq_true rfl, ?_⟩
    conv => whnf
    refine ⟨_, upd_same _ _ _, ?_⟩
    conv => whnf
    have hu : unqV s = (zeroV, 12) := by unfold unqV; rw [if_neg hN, if_pos (.inl hmem)]
    exact Fin.same rfl (((Le.refl st).up2 hb).up2 hb) ⟨by rw [hu]; rfl, rfl⟩
  have hno := of_decide_eq_false hbb
  refine Is.callB hp fun b hpb => ?_
  cases b <;> conv => whnf
  · skip
    refine ⟨_, upd_same _ _ _, Nat.le_of_ble_eq_true rfl, ?_⟩
    conv => whnf
    refine ⟨_, upd_same _ _ _, ?_⟩
    conv => whnf
    have hu : unqV s = (zeroV, 12) := by unfold unqV; rw [if_neg hN, if_pos (.inr hpb)]
    exact Fin.same rfl (((Le.refl st).up2 hb).up2 hb) ⟨by rw [hu]; rfl, rfl⟩
  have hN2 : ¬ ((39 : UInt8) ∈ rep2 [] (innB s).data.toList ∨ plain (innB s) = false) := by
    rintro (e | e)
    · exact hno e
    · rw [hpb] at e; cases e
  refine (r2 _ (upd_old hb hm)).mono fun r s1 h1 => ?_
  obtain ⟨rfl, rfl⟩ := h1
  conv => whnf
  refine ⟨fun h => ?_, fun h3 => ?_⟩ <;> conv => whnf
  · have h' : 32 < (rep2 [39] (innB s).data.toList).length := Int.ofNat_lt.1 h
    refine ⟨_, upd_same _ _ _, Nat.le_of_ble_eq_true rfl, ?_⟩
    conv => whnf
    refine ⟨_, upd_same _ _ _, ?_⟩
    conv => whnf
    have hu : unqV s = (zeroV, 3) := by unfold unqV; rw [if_neg hN, if_neg hN2, if_pos h']
    exact Fin.same rfl (((Le.refl st).up2 hb).up2 hb) ⟨by rw [hu]; rfl, rfl⟩
  have h' : ¬ 32 < (rep2 [39] (innB s).data.toList).length := fun e => h3 (Int.ofNat_lt.2 e)
  refine ⟨_, upd_same _ _ _, Nat.le_of_ble_eq_true rfl, ?_⟩
  conv => whnf
  refine ⟨_, upd_same _ _ _, ?_⟩
  conv => whnf
  have hu : unqV s = (⟨3, 0, ⟨(rep2 [39] (innB s).data.toList).toArray⟩⟩, 0) := by unfold unqV; rw [if_neg hN, if_neg hN2, if_neg h']
  exact Fin.same rfl (((Le.refl st).up2 hb).up2 hb) ⟨by rw [hu]; rfl, rfl⟩
set_option maxHeartbeats 1000000 in
theorem vread_does (s : ByteArray) (hs : s.size ≤ 1000) {st : Sto} {id : Nat} {m : Int} (hm : MaxL st id m) : Does Tryd.prog 7 [vS s] st fun r s' => r = .t [.g (eV (readV s).1), vI .i64 (readV s).2] ∧ s' = st := by
  have hh := hpre_is s ⟨#[39]⟩
  have hpx : Lib.hasPrefix s.data.toList (⟨#[39]⟩ : ByteArray).data.toList = decide (s.data.toList.head? = some 39) := by
    show ([39] : List UInt8).isPrefixOf s.data.toList = _
    cases s.data.toList with
    | nil => rfl
    | cons c l =>
      rw [Bool.eq_iff_iff]
      simp only [List.isPrefixOf, Bool.and_true, beq_iff_eq, List.head?_cons, Option.some.injEq, decide_eq_true_eq]
      exact ⟨Eq.symm, Eq.symm⟩
  rw [hpx] at hh
  have hn := nread_is s (by unfold Big; omega)
  refine Does.of TP Tryd.func7 rfl rfl (Nat.le_of_ble_eq_true rfl) (Pw.of TP [] ?_)
  conv => whnf
  intro ib hb
  conv => whnf
  refine ⟨fun (h : s = nullB) => ?_, fun (h1 : ¬ s = nullB) => ?_⟩ <;> conv => whnf
  · skip
    refine ⟨_, upd_same _ _ _, Nat.le_of_ble_eq_true rfl, ?_⟩
    conv => whnf
    refine ⟨_, upd_same _ _ _, ?_⟩
    conv => whnf
    have hu : readV s = (zeroV, 0) := by unfold readV; rw [if_pos h]
    exact Fin.same rfl (((Le.refl st).up2 hb).up2 hb) ⟨by rw [hu]; rfl, rfl⟩
  refine ⟨fun (h : s = trueB) => ?_, fun (h2 : ¬ s = trueB) => ?_⟩ <;> conv => whnf
  · skip
    refine ⟨_, upd_same _ _ _, Nat.le_of_ble_eq_true rfl, ?_⟩
    conv => whnf
    refine ⟨_, upd_same _ _ _, ?_⟩
    conv => whnf
    have hu : readV s = (⟨2, 1, ⟨#[]⟩⟩, 0) := by unfold readV; rw [if_neg h1, if_pos h]
    exact Fin.same rfl (((Le.refl st).up2 hb).up2 hb) ⟨by rw [hu]; rfl, rfl⟩
  refine ⟨fun (h : s = falseB) => ?_, fun (h3 : ¬ s = falseB) => ?_⟩ <;> conv => whnf
  · skip
    refine ⟨_, upd_same _ _ _, Nat.le_of_ble_eq_true rfl, ?_⟩
    conv => whnf
    refine ⟨_, upd_same _ _ _, ?_⟩
    conv => whnf
    have hu : readV s = (⟨2, 0, ⟨#[]⟩⟩, 0) := by unfold readV; rw [if_neg h1, if_neg h2, if_pos h]
    exact Fin.same rfl (((Le.refl st).up2 hb).up2 hb) ⟨by rw [hu]; rfl, rfl⟩
  refine Is.callB hh fun b hbb => ?_
  cases b <;> conv => whnf
  rotate_left
  · have hq := of_decide_eq_true hbb
    have hu : readV s = unqV s := by unfold readV; rw [if_neg h1, if_neg h2, if_neg h3, if_pos hq]
    rw [hu]
    refine (unq_does s hs (upd_old hb hm)).mono fun r s1 k1 => ?_
    obtain ⟨rfl, rfl⟩ := k1
    generalize unqV s = x
    obtain ⟨⟨k, n, t⟩, e⟩ := x
    conv => whnf
    refine ⟨_, upd_same _ _ _, Nat.le_of_ble_eq_true rfl, ?_⟩
    conv => whnf
    refine ⟨_, upd_same _ _ _, ?_⟩
    conv => whnf
    exact Fin.same rfl (((Le.refl st).up2 hb).up2 hb) ⟨rfl, rfl⟩
  have hq := of_decide_eq_false hbb
  refine hn.call ?_
  conv => whnf
  refine ⟨fun h => ?_, fun h4 => ?_⟩ <;> conv => whnf
  · skip
    refine ⟨_, upd_same _ _ _, Nat.le_of_ble_eq_true rfl, ?_⟩
    conv => whnf
    refine ⟨_, upd_same _ _ _, ?_⟩
    conv => whnf
    have hu : readV s = (zeroV, (readZ s).2) := by unfold readV; rw [if_neg h1, if_neg h2, if_neg h3, if_neg hq, if_neg h]
    exact Fin.same rfl (((Le.refl st).up2 hb).up2 hb) ⟨by rw [hu]; rfl, rfl⟩
  refine ⟨_, upd_same _ _ _, Nat.le_of_ble_eq_true rfl, ?_⟩
  conv => whnf
  refine ⟨_, upd_same _ _ _, ?_⟩
  conv => whnf
  have hu : readV s = (⟨1, (readZ s).1, ⟨#[]⟩⟩, 0) := by unfold readV; rw [if_neg h1, if_neg h2, if_neg h3, if_neg hq, if_pos (Classical.not_not.1 h4)]
  exact Fin.same rfl (((Le.refl st).up2 hb).up2 hb) ⟨by rw [hu]; rfl, rfl⟩
end Go.Proofs.YtnafgpgbedcdnaaDoor.D
