/- Words and contracts: a plain machine over the model, and what the functions that a law reaches come to, each for every input that its theorem names. -/
import Derived.Test.YtnafgpgbedcdnaaDoorK0
import Derived.Test.YtnafgpgbedcdnaaDoorK1
import Derived.Test.YtnafgpgbedcdnaaDoorV4
import Derived.Test.YtnafgpgbedcdnaaDoorV3
import Derived.WalkKit
import Derived.Lib.Walk
import Derived.Test.YtnafgpgbedcdnaaDoorV2
namespace Go.Proofs.YtnafgpgbedcdnaaDoor.D
set_option linter.unusedVariables false
set_option linter.unusedSimpArgs false
open Go Go.Proofs.YtnafgpgbedcdnaaDoor.D.Pm Go.RowKit
theorem vs_of {G : Gh} {w : World} {l : List Value} {vs : Array Value} (h : RVs G w (l.map fun x => .c (.v x)) vs) : vs = ⟨l⟩ := by
  obtain ⟨m⟩ := vs
  refine congrArg Array.mk (List.ext_getElem? fun j => ?_)
  have hl : m.length = l.length := by have := h.1; simpa using this
  by_cases hj : j < l.length
  · have hm : j < m.length := by omega
    have := (h.2 j (.c (.v l[j])) m[j] (by rw [List.getElem?_map, List.getElem?_eq_getElem hj]; rfl) (by simp [hm])).cel
    rw [List.getElem?_eq_getElem hj, List.getElem?_eq_getElem hm]
    generalize m[j] = x at this
    generalize l[j] = y at this
    cases this
    rfl
  · rw [List.getElem?_eq_none (by omega), List.getElem?_eq_none (by omega)]
/-- what leaves the world as it was -/
theorem Is.same {f : Nat} {fn : Func} {c : Code} {l : List Value} {x : Value} (hf : Tryd.prog.funcs[f]? = some fn) (hb : fn.body = some c) (hn : (fn.name == "runtime.NumGoroutine") = false) (hx : x.oneCell' = true)
    (h : ∀ w, Calls Tryd.prog f ⟨l⟩ w fun e w' => e = .returned x ∧ w' = w) : Is Tryd.prog f (l.map fun x => .c (.v x)) (.c (.v x)) := fun st =>
  ⟨⟨fn, c, hf, hb, hn⟩, fun G w vs hI hr => by
    rw [vs_of hr]
    refine (h w).mono fun e w' ⟨he, hw⟩ => ?_
    subst hw
    exact ⟨G, _, st, x, ⟨rfl, rfl⟩, he, .refl _ _, hI, RV.one x hx⟩⟩
/-- the store says what the variable bytealg.MaxLen is -/
abbrev MaxL (st : Sto) (id : Nat) (m : Int) : Prop := st id = some (.bx [.ab (glA id 0 (.int .i64 m) rfl)])
theorem MaxL.cell {G : Gh} {w : World} {st : Sto} {id : Nat} {m : Int} (h : MaxL st id m) (hI : Inv G w st) : w.cell? ⟨0, 0, none⟩ = some (.int .i64 m) := by
  obtain ⟨cs, e, h1, h2⟩ := hI.glob h
  have := cell_of h1 (o := 0)
  rw [h2] at this
  exact this
theorem idxB_is (s : ByteArray) (c : Int) : Is Tryd.prog 27 [vS s, vI .u8 c] (vI .i64 (Lib.indexByte s.data.toList c.toNat.toUInt8)) :=
  Is.same (l := [.string s, .int .u8 c]) Tryd.func27 rfl rfl rfl fun w => Tryd.strings_IndexByte s c w
theorem cont1_is (s : ByteArray) (c : UInt8) : Is Tryd.prog 25 [vS s, vS ⟨#[c]⟩] (vB (decide (0 ≤ Lib.indexByte s.data.toList c))) :=
  Is.same (l := [.string s, .string ⟨#[c]⟩]) Tryd.func25 rfl rfl rfl fun w => Tryd.strings_Contains_one s c w
theorem count1_is (s : ByteArray) (c : UInt8) : Is Tryd.prog 26 [vS s, vS ⟨#[c]⟩] (vI .i64 (Lib.countByte s.data.toList c)) :=
  Is.same (l := [.string s, .string ⟨#[c]⟩]) Tryd.func26 rfl rfl rfl fun w => Tryd.strings_Count_one s c w
theorem hpre_is (s p : ByteArray) : Is Tryd.prog 13 [vS s, vS p] (vB (Lib.hasPrefix s.data.toList p.data.toList)) :=
  Is.same (l := [.string s, .string p]) Tryd.func13 rfl rfl rfl fun w => Tryd.strings_HasPrefix s p w
theorem repl_does {st : Sto} {id : Nat} {m : Int} (hm : MaxL st id m) (s old new : ByteArray) (hs : s.size < 4294967281) (h1 : 1 ≤ old.size) (hl : s.size + Lib.countB s old * new.size ≤ 140737488355328) :
    Does Tryd.prog 24 [vS s, vS old, vS new] st fun r s' => r = vS ⟨(Lib.replaceAll s.data.toList old.data.toList new.data.toList).toArray⟩ ∧ s' = st :=
  ⟨⟨_, _, Tryd.func24, rfl, rfl⟩, fun G w vs hI hr => by
    rw [vs_of (l := [.string s, .string old, .string new]) hr]
    refine (Tryd.strings_ReplaceAll s old new m w hs (hm.cell hI) h1 hl).mono fun e w' ⟨he, hw⟩ => ?_
    obtain ⟨x, i⟩ := hI.below hw
    exact ⟨G, _, st, _, ⟨rfl, rfl⟩, he, x, i, RV.one _ rfl⟩⟩
end Go.Proofs.YtnafgpgbedcdnaaDoor.D
namespace Go.Proofs.YtnafgpgbedcdnaaDoor.D
set_option linter.unusedVariables false
set_option linter.unusedSimpArgs false
open Go Go.Proofs.YtnafgpgbedcdnaaDoor.D.Pm
set_option maxRecDepth 4000
/-- 'it''s', and what it says -/
abbrev tQ : ByteArray := ⟨#[39, 105, 116, 39, 39, 115, 39]⟩
abbrev tI : ByteArray := ⟨#[105, 116, 39, 39, 115]⟩
abbrev tV : ByteArray := ⟨#[105, 116, 39, 115]⟩
abbrev vV : Val := ⟨3, 0, tV⟩
theorem unqC_does {st : Sto} {id : Nat} {m : Int} (hm : MaxL st id m) : Does Tryd.prog 14 [vS tQ] st fun r s' => r = .t [.g (eV vV), vI .i64 0] ∧ s' = st := by
  have hp := plain_is tI (by unfold Big; decide)
  have e : plain tI = true := by kernel_rfl
  rw [e] at hp
  have hc := cont1_is ⟨#[105, 116, 115]⟩ 39
  have e2 : decide (0 ≤ Lib.indexByte (⟨#[105, 116, 115]⟩ : ByteArray).data.toList 39) = false := by kernel_rfl
  rw [e2] at hc
  have r1 : ∀ st, MaxL st id m → Does Tryd.prog 24 [vS tI, vS ⟨#[39, 39]⟩, vS ⟨#[]⟩] st fun r s' => r = vS ⟨#[105, 116, 115]⟩ ∧ s' = st := fun st hm => (repl_does hm tI ⟨#[39, 39]⟩ ⟨#[]⟩ (by decide) (by decide) (Nat.le_of_ble_eq_true (by kernel_rfl))).mono fun r s h => ⟨h.1.trans (by kernel_rfl), h.2⟩
  have r2 : ∀ st, MaxL st id m → Does Tryd.prog 24 [vS tI, vS ⟨#[39, 39]⟩, vS ⟨#[39]⟩] st fun r s' => r = vS tV ∧ s' = st := fun st hm => (repl_does hm tI ⟨#[39, 39]⟩ ⟨#[39]⟩ (by decide) (by decide) (Nat.le_of_ble_eq_true (by kernel_rfl))).mono fun r s h => ⟨h.1.trans (by kernel_rfl), h.2⟩
  refine Does.of TP Tryd.func14 rfl rfl (Nat.le_of_ble_eq_true rfl) (Pw.of TP [] ?_)
  conv => whnf
  intro ib hb
  conv => whnf
  refine ⟨fun h => absurd h (by decide), fun _ => ?_⟩
  conv => whnf
  refine ⟨by decide, by decide, ?_⟩
  conv => whnf
  refine ⟨fun h => absurd (by decide) h, fun _ => ?_⟩
  conv => whnf
  refine ⟨by decide, by decide, ?_⟩
  conv => whnf
  refine ⟨fun h => absurd (by decide) h, fun _ => ?_⟩
  conv => whnf
  refine ⟨by decide, by decide, by decide, ?_⟩
  conv => whnf
  have ex : tQ.extract (Int.toNat 1) (IntKind.i64.wrap ((tQ.size : Int) - 1)).toNat = tI := by kernel_rfl
  rw [ex]
  refine (r1 _ (upd_old hb hm)).mono fun r s1 h1 => ?_
  obtain ⟨rfl, rfl⟩ := h1
  conv => whnf
  refine hc.call ?_
  conv => whnf
  refine hp.call ?_
  conv => whnf
  refine (r2 _ (upd_old hb hm)).mono fun r s1 h1 => ?_
  obtain ⟨rfl, rfl⟩ := h1
  conv => whnf
  refine ⟨fun h => absurd h (by decide), fun _ => ?_⟩
  conv => whnf
  refine ⟨_, upd_same _ _ _, Nat.le_of_ble_eq_true rfl, ?_⟩
  conv => whnf
  refine ⟨_, upd_same _ _ _, ?_⟩
  conv => whnf
  exact Fin.same rfl (((Le.refl st).up2 hb).up2 hb) ⟨rfl, rfl⟩
theorem readC_does {st : Sto} {id : Nat} {m : Int} (hm : MaxL st id m) : Does Tryd.prog 7 [vS tQ] st fun r s' => r = .t [.g (eV vV), vI .i64 0] ∧ s' = st := by
  have hh := hpre_is tQ ⟨#[39]⟩
  have e : Lib.hasPrefix tQ.data.toList (⟨#[39]⟩ : ByteArray).data.toList = true := by kernel_rfl
  rw [e] at hh
  refine Does.of TP Tryd.func7 rfl rfl (Nat.le_of_ble_eq_true rfl) (Pw.of TP [] ?_)
  conv => whnf
  intro ib hb
  conv => whnf
  refine ⟨fun h => absurd h (by decide), fun _ => ?_⟩
  conv => whnf
  refine ⟨fun h => absurd h (by decide), fun _ => ?_⟩
  conv => whnf
  refine ⟨fun h => absurd h (by decide), fun _ => ?_⟩
  conv => whnf
  refine hh.call ?_
  conv => whnf
  refine (unqC_does (upd_old hb hm)).mono fun r s1 h1 => ?_
  obtain ⟨rfl, rfl⟩ := h1
  conv => whnf
  refine ⟨_, upd_same _ _ _, Nat.le_of_ble_eq_true rfl, ?_⟩
  conv => whnf
  refine ⟨_, upd_same _ _ _, ?_⟩
  conv => whnf
  exact Fin.same rfl (((Le.refl st).up2 hb).up2 hb) ⟨rfl, rfl⟩
theorem quotC_is : Is Tryd.prog 17 [vS tV] (vS tQ) := by
  have hc := count1_is tV 39
  have e : (Lib.countByte tV.data.toList 39 : Int) = 1 := by kernel_rfl
  rw [e] at hc
  refine Is.of TP Tryd.func17 rfl rfl (Nat.le_of_ble_eq_true rfl) fun st => Pw.of TP [1, 1000012, 1000022] ?_
  conv => whnf
  refine Pw.seq (Pw.regionX TP (sp := fun o env st K => OpOk Tryd.prog _ o env st K) (fun _ _ _ _ h => h) ?_)
  conv => whnf
  refine .inr ?_
  conv => whnf
  refine .inr ?_
  conv => whnf
  refine .inr ?_
  conv => whnf
  refine .inr ?_
  conv => whnf
  refine .inr ?_
  conv => whnf
  refine hc.call ?_
  conv => whnf
  refine .inr ?_
  conv => whnf
  refine .inl ⟨rfl, OpOk.make0 TP rfl rfl rfl rfl rfl rfl (by decide) (by decide) (by decide) (by decide) (by decide) fun id hid => ?_⟩
  conv => whnf
  refine .inr ?_
  conv => whnf
  refine Pw.of TP [1000022] ?_
  conv => whnf
  refine Grow.app (z := ⟨.i .u8, 1, 1, [.int .u8 0]⟩) (st0 := st) (rows := []) ⟨.upd hid, .inr ⟨id, rfl, upd_same _ _ _, hid⟩⟩ (by decide) (by decide) fun a1 st1 hg1 hk1 => ?_
  conv => whnf
  have hi1 := idxB_is tV 39
  have hi2 := idxB_is ⟨#[115]⟩ 39
  have e1 : Lib.indexByte tV.data.toList (39 : Int).toNat.toUInt8 = 2 := by kernel_rfl
  have e2 : Lib.indexByte (⟨#[115]⟩ : ByteArray).data.toList (39 : Int).toNat.toUInt8 = -1 := by kernel_rfl
  rw [e1] at hi1
  rw [e2] at hi2
  refine Pw.lpS (σ := ByteArray × AC × Sto) [] (fun x => [(0, vS x.1), (3, .c x.2.1)]) (fun x => x.2.2) (fun x => (x.1 = tV ∧ Grow st 1 x.2.2 x.2.1 (byc ⟨#[39]⟩)) ∨ (x.1 = ⟨#[115]⟩ ∧ Grow st 1 x.2.2 x.2.1 (byc ⟨#[39, 105, 116, 39, 39]⟩))) (fun x => x.1.size) (tV, a1, st1) ⟨rfl, rfl, trivial⟩ (.refl _) (.inl ⟨rfl, hg1⟩) fun x hg => Pw.of TP [1000022] ?_
  obtain ⟨t, a, y⟩ := x
  dsimp only at hg ⊢
  rcases hg with ⟨rfl, hg⟩ | ⟨rfl, hg⟩
  · conv => whnf
    refine hi1.call ?_
    conv => whnf
    refine ⟨fun h => absurd h (by decide), fun _ => ?_⟩
    conv => whnf
    refine ⟨rfl, by decide, by decide, by decide, by decide, by decide, fun ip hp => ?_⟩
    conv => whnf
    refine ⟨by decide, by decide, by decide, ?_⟩
    conv => whnf
    refine ⟨_, upd_same _ _ _, ?_⟩
    conv => whnf
    refine ⟨by decide, ?_⟩
    conv => whnf
    refine ⟨by decide, by decide, ⟨_, upd_same _ _ _⟩, ?_⟩
    conv => whnf
    refine ⟨_, _, _, upd_same _ _ _, rfl, Nat.le_of_ble_eq_true rfl, ?_⟩
    conv => whnf
    refine ⟨_, upd_same _ _ _, by decide, ?_⟩
    have hg2 : ∀ o1 o2 o3, Grow st 1 (upd (upd (upd y ip o1) ip o2) ip o3) a (byc ⟨#[39]⟩) := fun o1 o2 o3 => by
      refine ⟨fun i o hi => ?_, ?_⟩
      · have : i ≠ ip := fun e => by subst e; rw [hg.1 _ _ hi] at hp; cases hp
        rw [upd_ne _ this, upd_ne _ this, upd_ne _ this]; exact hg.1 _ _ hi
      · rcases hg.2 with h | ⟨i, h1, h2, h3⟩
        · exact .inl h
        · have : i ≠ ip := fun e => by subst e; rw [h2] at hp; cases hp
          exact .inr ⟨i, h1, by rw [upd_ne _ this, upd_ne _ this, upd_ne _ this]; exact h2, h3⟩
    refine Grow.app (z := ⟨.i .u8, 1, 1, [.int .u8 0]⟩) (hg2 _ _ _) (by decide) (by decide) fun a2 st2 hg3 hk2 => ?_
    conv => whnf
    refine ⟨by decide, by decide, by decide, ?_⟩
    conv => whnf
    exact ⟨trivial, (⟨#[115]⟩, a2, st2), ⟨rfl, rfl, trivial⟩, .refl _, .inr ⟨rfl, hg3⟩, by show 1 < 4; decide⟩
  · conv => whnf
    refine hi2.call ?_
    conv => whnf
    refine ⟨fun _ => ?_, fun h => absurd (by decide) h⟩
    conv => whnf
    refine Grow.app (z := ⟨.i .u8, 1, 1, [.int .u8 0]⟩) hg (by decide) (by decide) fun a2 st2 hg2 hk2 => ?_
    conv => whnf
    refine Grow.app (z := ⟨.i .u8, 1, 1, [.int .u8 0]⟩) hg2 (by decide) (by decide) fun a3 st3 hg3 hk3 => ?_
    rcases hg3.2 with ⟨_, h⟩ | ⟨i3, rfl, hs3, _⟩
    · exact absurd (congrArg List.length h) (by decide)
    conv => whnf
    refine ⟨_, tQ, hs3, by decide, rfl, ?_⟩
    conv => whnf
    exact Fin.old rfl hg3.1
end Go.Proofs.YtnafgpgbedcdnaaDoor.D
namespace Go.Proofs.YtnafgpgbedcdnaaDoor.D
set_option linter.unusedVariables false
set_option linter.unusedSimpArgs false
open Go Go.Proofs.YtnafgpgbedcdnaaDoor.D.Pm
set_option maxRecDepth 4000
def vless (a b : Val) : Bool := decide (vorder a b < 0)
theorem vless_is (a b : Val) : Is Tryd.prog 11 [.g (eV a), .g (eV b)] (vB (vless a b)) := by
  refine Is.of TP Tryd.func11 rfl rfl (Nat.le_of_ble_eq_true rfl) fun st => Pw.of TP [] ?_
  conv => whnf
  refine Is.callI (vorder_is a b) fun r hr => ?_
  conv => whnf
  repeat' (first | (refine ⟨fun h => ?_, fun h => ?_⟩ <;> conv => whnf) | fail)
  · exact Fin.old (congrArg vB (by unfold vless; rw [hr]; exact (decide_eq_true ‹_›).symm)) (.refl _)
  · exact Fin.old (congrArg vB (by unfold vless; rw [hr]; exact (decide_eq_false ‹_›).symm)) (.refl _)
theorem showC_is : Is Tryd.prog 8 [.g (eV vV)] (vS tQ) := by
  refine Is.of TP Tryd.func8 rfl rfl (Nat.le_of_ble_eq_true rfl) fun st => Pw.of TP [] ?_
  conv => whnf
  refine ⟨fun h => absurd h (by decide), fun _ => ?_⟩
  conv => whnf
  refine ⟨fun h => absurd h (by decide), fun _ => ?_⟩
  conv => whnf
  refine ⟨fun h => absurd h (by decide), fun _ => ?_⟩
  conv => whnf
  refine ⟨fun _ => ?_, fun h => absurd rfl h⟩
  conv => whnf
  refine quotC_is.call ?_
  conv => whnf
  exact Fin.old rfl (.refl _)
theorem works03_does {st : Sto} {id : Nat} {m : Int} (hm : MaxL st id m) : Does Tryd.prog 6 [] st fun r s' => r = vB true ∧ s' = st := by
  have hl := vless_is ⟨0, 0, ⟨#[]⟩⟩ vV
  have e : vless ⟨0, 0, ⟨#[]⟩⟩ vV = true := by kernel_rfl
  rw [e] at hl
  refine Does.of TP Tryd.func6 rfl rfl (Nat.le_of_ble_eq_true rfl) (Pw.of TP [] ?_)
  conv => whnf
  refine (readC_does hm).mono fun r s1 h1 => ?_
  obtain ⟨rfl, rfl⟩ := h1
  conv => whnf
  refine ⟨fun _ => ?_, fun h => absurd rfl h⟩
  conv => whnf
  refine ⟨fun _ => ?_, fun h => absurd ⟨rfl, rfl, rfl, trivial⟩ h⟩
  conv => whnf
  refine showC_is.call ?_
  conv => whnf
  refine ⟨fun _ => ?_, fun h => absurd rfl h⟩
  conv => whnf
  refine hl.call ?_
  conv => whnf
  exact Fin.same rfl (.refl _) ⟨rfl, rfl⟩
end Go.Proofs.YtnafgpgbedcdnaaDoor.D
namespace Go.Proofs.YtnafgpgbedcdnaaDoor.D
set_option linter.unusedVariables false
set_option linter.unusedSimpArgs false
open Go Go.Proofs.YtnafgpgbedcdnaaDoor.D.Pm
set_option maxRecDepth 4000
def longV (v : Val) : Bool := decide (200 < v.s.size)
theorem long_is (l : List Val) (hl : l.length ≤ Big) : Is Tryd.prog 5 [.c (.sl 3 (l.map eV))] (vB (l.any longV)) := by
  refine Is.of TP Tryd.func5 rfl rfl (Nat.le_of_ble_eq_true rfl) fun st => Pw.of TP [] ?_
  conv => whnf
  refine Pw.rng (τ := Unit) 3 l.length hl [0] (fun _ => []) (fun i _ => ∀ v ∈ l.take i, longV v = false) () rfl ⟨⟩ (by simp) fun i _ hi hx => Pw.of TP [] ?_
  conv => whnf
  refine ⟨fun h => ?_, fun h => ?_⟩ <;> conv => whnf
  · have hi' := lt_map ‹_›
    have k1 := fun F => ixm (f := eV) (F := F) hi'
    have hs : longV l[i] = false → ∀ v ∈ l.take (i + 1), longV v = false := fun h v hv => by
      rw [List.take_add_one, List.getElem?_eq_getElem hi'] at hv
      rcases List.mem_append.1 hv with hv | hv
      · exact hx v hv
      · simp at hv; rw [hv]; exact h
    have ha : longV l[i] = true → l.any longV = true := fun h => List.any_eq_true.2 ⟨_, List.getElem_mem hi', h⟩
    generalize l[i] = v at k1 hs ha
    refine k1 _ ?_
    conv => whnf
    refine ⟨fun h => ?_, fun h => ?_⟩ <;> conv => whnf
    · exact Fin.old (congrArg vB (ha (decide_eq_true (by omega))).symm) (.refl _)
    · exact ⟨hi', rfl, ⟨rfl, trivial⟩, (), trivial, .refl _, hs (decide_eq_false (by omega))⟩
  · obtain rfl := nlt_map ‹_› hi
    refine Fin.old (congrArg vB ?_) (.refl _)
    symm
    rw [List.any_eq_false]
    intro v hv
    simp [hx v (by simpa using hv)]
end Go.Proofs.YtnafgpgbedcdnaaDoor.D
namespace Go.Proofs.YtnafgpgbedcdnaaDoor.D
set_option linter.unusedVariables false
set_option linter.unusedSimpArgs false
open Go Go.Proofs.YtnafgpgbedcdnaaDoor.D.Pm
set_option maxRecDepth 4000
theorem bl_turn : ∀ s t : List UInt8, Op.bytesLess t s = !(Op.bytesLess s t || decide (s = t))
  | [], [] => by simp [Op.bytesLess]
  | [], b :: t => by simp [Op.bytesLess]
  | a :: s, [] => by simp [Op.bytesLess]
  | a :: s, b :: t => by
    have ih := bl_turn s t
    simp only [Op.bytesLess]
    by_cases h : a = b
    · subst h
      rw [ih]
      simp
    · have h2 : ¬ b = a := fun e => h e.symm
      have h3 : ¬ a.toNat = b.toNat := fun e => h (UInt8.toNat_inj.1 e)
      have e1 : (a == b) = false := by simpa using h
      have e2 : (b == a) = false := by simpa using h2
      rw [e1, e2]
      simp only [Bool.false_and, Bool.or_false, List.cons.injEq, h, false_and, decide_false]
      rw [Bool.eq_iff_iff]
      simp [UInt8.lt_iff_toNat_lt]
      omega
theorem bl_ba (a b : ByteArray) : Op.bytesLess b.toList a.toList = !(Op.bytesLess a.toList b.toList || decide (a = b)) := by
  rw [bl_turn]
  have := bytes_beq a b
  have e : decide (a.toList = b.toList) = decide (a = b) := by rw [← this, Bool.eq_iff_iff]; simp
  rw [e]
def vls (a b : Val) : Bool := if ¬ a.k = b.k then decide (a.k < b.k) else if ¬ a.n = b.n then decide (a.n < b.n) else Op.bytesLess a.s.toList b.s.toList
theorem vorder_cases (a b : Val) : vorder a b = if ¬ a.k = b.k then (if a.k < b.k then -1 else 1) else if ¬ a.n = b.n then (if a.n < b.n then -1 else 1) else cmpS a.s b.s := by
  unfold vorder firstN
  have hI : ∀ x y : Int, (cmpI x y = 0 ↔ x = y) ∧ (¬ x = y → cmpI x y = if x < y then -1 else 1) := fun x y => by
    unfold cmpI
    constructor
    · repeat' split
      all_goals omega
    · intro h
      repeat' split
      all_goals omega
  by_cases h1 : a.k = b.k
  · rw [if_neg (by simpa using h1)]
    have e1 := (hI a.k b.k).1.2 h1
    by_cases h2 : a.n = b.n
    · rw [if_neg (by simpa using h2)]
      have e2 := (hI a.n b.n).1.2 h2
      rw [e1, e2]
      by_cases h3 : cmpS a.s b.s = 0
      · simp [List.find?, h3]
      · simp [List.find?, h3]
    · rw [if_pos h2]
      have e2 : ¬ cmpI a.n b.n = 0 := fun e => h2 ((hI a.n b.n).1.1 e)
      rw [e1, ← (hI a.n b.n).2 h2]
      simp [List.find?, e2]
  · rw [if_pos h1]
    have e1 : ¬ cmpI a.k b.k = 0 := fun e => h1 ((hI a.k b.k).1.1 e)
    rw [← (hI a.k b.k).2 h1]
    simp [List.find?, e1]
theorem cmpS_lt (a b : ByteArray) : (cmpS a b < 0 ↔ Op.bytesLess a.toList b.toList = true) ∧ (0 < cmpS a b ↔ Op.bytesLess b.toList a.toList = true) ∧ (cmpS a b = 0 ↔ a = b) := by
  have h := bl_ba a b
  have h' := bl_ba b a
  unfold cmpS
  rw [← h]
  cases e1 : Op.bytesLess a.toList b.toList <;> cases e2 : Op.bytesLess b.toList a.toList <;> rw [e1, e2] at h h'
  · have : a = b := by simpa using h
    simp [this]
  · have : ¬ a = b := by simpa using h
    simp [this]
  · have : ¬ a = b := fun e => by subst e; rw [e1] at e2; cases e2
    simp [this]
  · simp at h
theorem vorder_ok (a b : Val) : (vorder a b < 0 ↔ vls a b = true) ∧ (0 < vorder a b ↔ vls b a = true) ∧ (vorder a b = 0 ↔ (a.k = b.k ∧ a.n = b.n ∧ a.s = b.s)) := by
  rw [vorder_cases]
  unfold vls
  obtain ⟨h1, h2, h3⟩ := cmpS_lt a.s b.s
  by_cases k : a.k = b.k
  · by_cases n : a.n = b.n
    · simp only [k, n, not_true_eq_false, if_false]
      exact ⟨h1, h2, by rw [h3]; simp⟩
    · have n' : ¬ b.n = a.n := fun e => n e.symm
      simp only [k, n, n', not_true_eq_false, not_false_eq_true, if_false, if_true]
      refine ⟨?_, ?_, ?_⟩ <;> split <;> simp <;> omega
  · have k' : ¬ b.k = a.k := fun e => k e.symm
    simp only [k, k', not_true_eq_false, not_false_eq_true, if_false, if_true]
    refine ⟨?_, ?_, ?_⟩ <;> split <;> simp <;> omega
theorem bl_trans : ∀ s t u : List UInt8, Op.bytesLess s t = true → Op.bytesLess t u = true → Op.bytesLess s u = true
  | _, [], _, h, _ => by cases ‹List UInt8› <;> simp [Op.bytesLess] at h
  | [], _ :: _, [], _, h => by simp [Op.bytesLess] at h
  | [], _ :: _, _ :: _, _, _ => by simp [Op.bytesLess]
  | _ :: _, _ :: _, [], _, h => by simp [Op.bytesLess] at h
  | a :: s, b :: t, c :: u, h1, h2 => by
    have ih := bl_trans s t u
    simp only [Op.bytesLess, Bool.or_eq_true, Bool.and_eq_true, decide_eq_true_eq, beq_iff_eq] at h1 h2 ⊢
    rcases h1 with h1 | ⟨rfl, h1⟩
    · rcases h2 with h2 | ⟨rfl, h2⟩
      · exact .inl (by simp only [UInt8.lt_iff_toNat_lt] at *; omega)
      · exact .inl h1
    · rcases h2 with h2 | ⟨rfl, h2⟩
      · exact .inl h2
      · exact .inr ⟨rfl, ih h1 h2⟩
theorem vorder_val (a b : Val) : vorder a b = -1 ∨ vorder a b = 0 ∨ vorder a b = 1 := by
  rw [vorder_cases]
  unfold cmpS
  repeat' split
  all_goals omega
theorem vorder_neg (a b : Val) : vorder a b = -vorder b a := by
  obtain ⟨h1, h2, h3⟩ := vorder_ok a b
  obtain ⟨k1, k2, k3⟩ := vorder_ok b a
  have e : (vorder a b < 0 ↔ 0 < vorder b a) := h1.trans k2.symm
  have e' : (0 < vorder a b ↔ vorder b a < 0) := h2.trans k1.symm
  have x1 := vorder_val a b
  have x2 := vorder_val b a
  clear h1 h2 h3 k1 k2 k3
  generalize vorder a b = p at *
  generalize vorder b a = q at *
  omega
theorem vls_iff (a b : Val) : vls a b = true ↔ a.k < b.k ∨ (a.k = b.k ∧ (a.n < b.n ∨ (a.n = b.n ∧ Op.bytesLess a.s.toList b.s.toList = true))) := by
  unfold vls
  by_cases k : a.k = b.k
  · by_cases n : a.n = b.n
    · rw [if_neg (by simpa using k), if_neg (by simpa using n)]
      exact ⟨fun h => .inr ⟨k, .inr ⟨n, h⟩⟩, fun h => by
        rcases h with h | ⟨_, h | ⟨_, h⟩⟩
        · omega
        · omega
        · exact h⟩
    · rw [if_neg (by simpa using k), if_pos n, decide_eq_true_eq]
      exact ⟨fun h => .inr ⟨k, .inl h⟩, fun h => by
        rcases h with h | ⟨_, h | ⟨e, _⟩⟩
        · omega
        · exact h
        · exact absurd e n⟩
  · rw [if_pos k, decide_eq_true_eq]
    exact ⟨fun h => .inl h, fun h => by
      rcases h with h | ⟨e, _⟩
      · exact h
      · exact absurd e k⟩
theorem vls_trans (a b c : Val) (h1 : vls a b = true) (h2 : vls b c = true) : vls a c = true := by
  rw [vls_iff] at *
  rcases h1 with h1 | ⟨e1, h1 | ⟨n1, h1⟩⟩ <;> rcases h2 with h2 | ⟨e2, h2 | ⟨n2, h2⟩⟩
  all_goals first | exact .inl (by omega) | exact .inr ⟨by omega, .inl (by omega)⟩ | exact .inr ⟨by omega, .inr ⟨by omega, bl_trans _ _ _ h1 h2⟩⟩
end Go.Proofs.YtnafgpgbedcdnaaDoor.D
namespace Go.Proofs.YtnafgpgbedcdnaaDoor.D
set_option linter.unusedVariables false
set_option linter.unusedSimpArgs false
open Go Go.Proofs.YtnafgpgbedcdnaaDoor.D.Pm
set_option maxRecDepth 4000
theorem vc3 (a b : Val) : ∃ x y z e : Int, vcompare 5 a b = (x, e) ∧ vcompare 3 a b = (y, e) ∧ vcompare 7 a b = (z, e) ∧
    ((x = 0 ∧ y = 0 ∧ z = 0 ∧ e = 11) ∨ (x = 2 ∧ y = 2 ∧ z = 2 ∧ e = 0) ∨ (x = 1 ∧ y = 0 ∧ z = 0 ∧ e = 0) ∨ (x = 0 ∧ y = 1 ∧ z = 0 ∧ e = 0) ∨ (x = 0 ∧ y = 0 ∧ z = 1 ∧ e = 0)) := by
  by_cases h1 : vknown a = false ∨ vknown b = false
  · exact ⟨0, 0, 0, 11, by unfold vcompare; rw [if_pos (.inr (.inr h1))], by unfold vcompare; rw [if_pos (.inr (.inr h1))], by unfold vcompare; rw [if_pos (.inr (.inr h1))], .inl ⟨rfl, rfl, rfl, rfl⟩⟩
  have nb : ∀ op : Int, 3 ≤ op → op ≤ 8 → ¬ (op < 3 ∨ 8 < op ∨ vknown a = false ∨ vknown b = false) := fun op g1 g2 h => by
    rcases h with h | h | h
    · omega
    · omega
    · exact h1 h
  by_cases h2 : a.k = 0 ∨ b.k = 0
  · exact ⟨2, 2, 2, 0, by unfold vcompare; rw [if_neg (nb _ (by decide) (by decide)), if_pos h2], by unfold vcompare; rw [if_neg (nb _ (by decide) (by decide)), if_pos h2], by unfold vcompare; rw [if_neg (nb _ (by decide) (by decide)), if_pos h2], .inr (.inl ⟨rfl, rfl, rfl, rfl⟩)⟩
  by_cases h3 : a.k = b.k
  · have key : ∀ op, 3 ≤ op → op ≤ 8 → vcompare op a b = if opIs op (vorder a b) = true then (1, 0) else (0, 0) := fun op g1 g2 => by
      unfold vcompare; rw [if_neg (nb op g1 g2), if_neg h2, if_neg (by simpa using h3)]
    rw [key 5 (by decide) (by decide), key 3 (by decide) (by decide), key 7 (by decide) (by decide)]
    rcases vorder_val a b with h | h | h <;> rw [h]
    · exact ⟨1, 0, 0, 0, rfl, rfl, rfl, .inr (.inr (.inl ⟨rfl, rfl, rfl, rfl⟩))⟩
    · exact ⟨0, 1, 0, 0, rfl, rfl, rfl, .inr (.inr (.inr (.inl ⟨rfl, rfl, rfl, rfl⟩)))⟩
    · exact ⟨0, 0, 1, 0, rfl, rfl, rfl, .inr (.inr (.inr (.inr ⟨rfl, rfl, rfl, rfl⟩)))⟩
  · exact ⟨0, 0, 0, 11, by unfold vcompare; rw [if_neg (nb _ (by decide) (by decide)), if_neg h2, if_pos h3], by unfold vcompare; rw [if_neg (nb _ (by decide) (by decide)), if_neg h2, if_pos h3], by unfold vcompare; rw [if_neg (nb _ (by decide) (by decide)), if_neg h2, if_pos h3], .inl ⟨rfl, rfl, rfl, rfl⟩⟩
theorem vless_vls (a b : Val) : vless a b = vls a b := by
  unfold vless
  rw [Bool.eq_iff_iff, decide_eq_true_eq]
  exact (vorder_ok a b).1
set_option maxHeartbeats 2000000 in
theorem orders_does (a b c : Val) {st : Sto} {id : Nat} {m : Int} (hm : MaxL st id m) : Does Tryd.prog 4 [.g (eV a), .g (eV b), .g (eV c)] st fun r s' => r = vB true ∧ s' = st := by
  have hl := long_is [a, b, c] (by show 3 ≤ Big; unfold Big; decide)
  have o1 := vorder_is a b
  have o2 := vorder_is b a
  have l1 := vless_is a b
  have l2 := vless_is b c
  have l3 := vless_is a c
  have ht := vls_trans a b c
  rw [← vless_vls, ← vless_vls, ← vless_vls] at ht
  have hz := (vorder_ok a b).2.2
  have hn : vorder b a = - vorder a b := vorder_neg b a
  have hv := vorder_val a b
  obtain ⟨x, y, z, e, c1, c2, c3, hc⟩ := vc3 a b
  have m1 := vcompare_is 5 a b
  have m2 := vcompare_is 3 a b
  have m3 := vcompare_is 7 a b
  rw [c1] at m1
  rw [c2] at m2
  rw [c3] at m3
  rw [hn] at o2
  have hw : IntKind.i64.wrap (0 - -vorder a b) = vorder a b := by rw [wrap_id (by omega) (by omega)]; omega
  clear c1 c2 c3 hn
  generalize vorder a b = p at *
  generalize vless a b = q1 at *
  generalize vless b c = q2 at *
  generalize vless a c = q3 at *
  have hwk := fun st (h : MaxL st id m) => works03_does h
  refine Does.of TP Tryd.func4 rfl rfl (Nat.le_of_ble_eq_true rfl) (Pw.of TP [3] ?_)
  conv => whnf
  refine Is.callB hl fun q hq => ?_
  cases q <;> conv => whnf
  rotate_left
  · refine (hwk _ hm).mono fun r s1 h1 => ?_
    obtain ⟨rfl, rfl⟩ := h1
    conv => whnf
    exact Fin.same rfl (.refl _) ⟨rfl, rfl⟩
  refine Pw.cut (τ := Unit) [3, 4, 5] (fun _ => []) (fun _ => st) (fun _ => True) (Pw.of TP [] ?_) fun _ _ => Pw.of TP [] ?_
  · refine Pw.drw TP mixed (by kernel_rfl) ?_; conv => whnf
    refine Is.draw o1 ?_
    conv => whnf
    refine Is.draw o2 ?_
    conv => whnf
    rw [hw]
    refine ⟨fun h => absurd rfl h, fun _ => ?_⟩
    conv => whnf
    refine Is.draw o1 ?_
    conv => whnf
    refine ⟨fun g => ?_, fun g => ?_⟩ <;> conv => whnf
    all_goals refine ⟨fun g2 => ?_, fun g2 => ?_⟩
    all_goals first
      | (exfalso; exact g2 (by obtain ⟨x1, x2, x3⟩ := hz.1 g; exact ⟨x1, x2, x3, trivial⟩))
      | (exfalso; exact g (hz.2 ⟨g2.1, g2.2.1, g2.2.2.1⟩))
      | skip
    all_goals conv => whnf
    all_goals refine Is.drawB l1 fun r1 e1 => ?_
    all_goals cases r1 <;> conv => whnf
    all_goals first
      | exact ⟨⟨rfl, rfl, rfl, trivial⟩, (), trivial, .refl _, trivial⟩
      | skip
    all_goals refine Is.drawB l2 fun r2 e2 => ?_
    all_goals cases r2 <;> conv => whnf
    all_goals first
      | exact ⟨⟨rfl, rfl, rfl, trivial⟩, (), trivial, .refl _, trivial⟩
      | skip
    all_goals refine Is.drawB l3 fun r3 e3 => ?_
    all_goals have e4 := ht e1 e2
    all_goals rw [e3] at e4
    all_goals subst e4
    all_goals conv => whnf
    all_goals exact ⟨⟨rfl, rfl, rfl, trivial⟩, (), trivial, .refl _, trivial⟩
  clear o1 o2 l1 l2 l3 ht hz hv hw hl
  rcases hc with ⟨rfl, rfl, rfl, rfl⟩ | ⟨rfl, rfl, rfl, rfl⟩ | ⟨rfl, rfl, rfl, rfl⟩ | ⟨rfl, rfl, rfl, rfl⟩ | ⟨rfl, rfl, rfl, rfl⟩
  all_goals conv => whnf
  all_goals refine m1.call ?_
  all_goals conv => whnf
  all_goals refine m2.call ?_
  all_goals conv => whnf
  all_goals refine m3.call ?_
  all_goals conv => whnf
  all_goals iterate 12 (first
    | (refine ⟨fun h => ?_, fun _ => ?_⟩
       · exfalso; revert h; decide
       conv => whnf)
    | (refine ⟨fun _ => ?_, fun h => ?_⟩
       rotate_left
       · exfalso; revert h; decide
       conv => whnf)
    | skip)
  all_goals refine (hwk _ hm).mono fun r s1 h1 => ?_
  all_goals obtain ⟨rfl, rfl⟩ := h1
  all_goals conv => whnf
  all_goals exact Fin.same rfl (.refl _) ⟨rfl, rfl⟩
end Go.Proofs.YtnafgpgbedcdnaaDoor.D
namespace Go.Proofs.YtnafgpgbedcdnaaDoor.D
set_option linter.unusedVariables false
set_option linter.unusedSimpArgs false
open Go Go.Proofs.YtnafgpgbedcdnaaDoor.D.Pm
set_option maxRecDepth 4000
def I64 (n : Int) : Prop := (Lit.int .i64 n).wf = true
def wfV (v : Val) : Prop := I64 v.k ∧ I64 v.n ∧ v.s.size ≤ maxLen
theorem rdV (m : Nat) : Rd Tryd.prog 23 eV wfV m :=
  (Rd.st (fun a : Int × Int × ByteArray => (⟨a.1, a.2.1, a.2.2⟩ : Val)) (by exact fun a => ⟨rfl, fun h => h⟩) Tryd.underlying23 (by kernel_rfl)
    (RdF.cons (s1 := 1) rfl (by kernel_rfl) (Rd.int Tryd.underlying3) (RdF.cons (s1 := 1) rfl (by kernel_rfl) (Rd.int Tryd.underlying3) (RdF.last (sz := 1) rfl (by kernel_rfl) (Rd.str Tryd.underlying9))))).less
theorem valueOrders_law (x0 x1 x2 : Val) (_ : wfV x0) (_ : wfV x1) (_ : wfV x2) : ∀ (st : Sto) (id : Nat) (m : Int), MaxL st id m → Does Tryd.prog 4 [.g (eV x0), .g (eV x1), .g (eV x2)] st fun r s' => r = vB true ∧ s' = st :=
  fun st id m h => orders_does x0 x1 x2 h
theorem rv_eV {G G' : Gh} {w w' : World} {a : Val} {v : Value} (h : RV G w (.g (eV a)) v) : RV G' w' (.g (eV a)) v := RV.plainG (l := [.int .i64 a.k, .int .i64 a.n, .string a.s]) h
end Go.Proofs.YtnafgpgbedcdnaaDoor.D
