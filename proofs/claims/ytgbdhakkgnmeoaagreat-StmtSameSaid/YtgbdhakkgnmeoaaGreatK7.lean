/- Words and contracts: a plain machine over the model, and what the functions that a law reaches come to, each for every input that its theorem names. -/
import Derived.Test.YtgbdhakkgnmeoaaGreatK6
import Derived.Test.YtgbdhakkgnmeoaaGreatK3
import Derived.Test.YtgbdhakkgnmeoaaGreatV4
namespace Go.Proofs.YtgbdhakkgnmeoaaGreat.D
set_option linter.unusedVariables false
set_option linter.unusedSimpArgs false
open Go Go.Proofs.YtgbdhakkgnmeoaaGreat.D.Pm
set_option maxRecDepth 4000
theorem BT.w : BT 72 := ⟨by kernel_rfl⟩
abbrev wP (id : Nat) : AC := bP id 72
abbrev Wr (st0 st : Sto) (id : Nat) (s : ByteArray) : Prop := ∃ a b, Bl st0 st id 72 5 a b s
def cat : List ByteArray → ByteArray
  | [] => ⟨#[]⟩
  | s :: l => s ++ cat l
theorem ba_nilr (s : ByteArray) : s ++ (⟨#[]⟩ : ByteArray) = s := ByteArray.append_empty
theorem put_does {st0 st : Sto} {id : Nat} {s : ByteArray} (l : List ByteArray) (hn : l.length ≤ Big) (hp : ∀ t ∈ l, 0 < t.size) (h : Wr st0 st id s) (hl : (s ++ cat l).size ≤ Lim47) :
    Does Tryz.prog 54 [.c (wP id), .c (eS l)] st fun r s' => r = .t [] ∧ Wr st0 s' id (s ++ cat l) := by
  obtain ⟨a, b, h⟩ := h
  refine Does.of TP Tryz.func54 rfl rfl (Nat.le_of_ble_eq_true rfl) (Pw.of TP [] ?_)
  conv => whnf
  refine Pw.rngS (τ := AC × AC × ByteArray × Sto) 8 l.length hn [0, 6, 7] (fun _ _ => []) (fun _ y => y.2.2.2) (fun i y => Bl st0 y.2.2.2 id 72 5 y.1 y.2.1 y.2.2.1 ∧ y.2.2.1 ++ cat (l.drop i) = s ++ cat l) (a, b, s, st) rfl ⟨⟩ (.refl _) ⟨h, rfl⟩ fun i y hi hg => Pw.of TP [3] ?_
  obtain ⟨a, b, t, y⟩ := y
  obtain ⟨hB, hJ⟩ := hg
  dsimp only at hB hJ ⊢
  conv => whnf
  refine ⟨fun hc => ?_, fun hc => ?_⟩ <;> conv => whnf
  · have hi' := lt_map hc
    refine ixm hi' ?_
    have hx := hp l[i] (List.getElem_mem hi')
    have hd : l.drop i = l[i] :: l.drop (i + 1) := List.drop_eq_getElem_cons hi'
    rw [hd] at hJ
    generalize l[i] = x at hx hJ ⊢
    conv => whnf
    have hz := congrArg ByteArray.size hJ
    rw [ba_size] at hz
    have hz2 : (cat (x :: l.drop (i + 1))).size = x.size + (cat (l.drop (i + 1))).size := ba_size _ _
    refine Pw.regionX TP (sp := fun o env st K => OpOk Tryz.prog _ o env st K) (fun _ _ _ _ h => h) ?_
    conv => whnf
    refine .inr ?_
    conv => whnf
    refine .inl ⟨rfl, OpOk.tpKeep rfl rfl ?_⟩
    conv => whnf
    refine .inl ⟨rfl, OpOk.tpField TP rfl rfl rfl rfl rfl (by decide) rfl ?_⟩
    conv => whnf
    refine .inr ?_
    conv => whnf
    refine .inr ?_
    conv => whnf
    refine (wstr_does BT.w hB x hx (by unfold Lim47 at hl; omega)).mono fun r s1 hh => ?_
    obtain ⟨⟨n1, rfl⟩, a1, b1, hh⟩ := hh
    conv => whnf
    exact ⟨hi', rfl, ⟨rfl, rfl, rfl, trivial⟩, (a1, b1, t ++ x, s1), trivial, .refl _, hh, by rw [ba_assoc]; exact hJ⟩
  · obtain rfl := nlt_map hc hi
    rw [List.drop_length] at hJ
    have e0 : t ++ cat [] = t := ba_nilr t
    rw [e0] at hJ
    exact Fin.same rfl (.refl _) ⟨rfl, a, b, by rw [← hJ]; exact hB⟩
theorem any12_does {st0 st : Sto} {id : Nat} {s : ByteArray} (e : Ex) (t : ByteArray) (hpr : Is Tryz.prog 41 [.g (eE e)] (.t [vS t, vI .i64 0])) (ht : 0 < t.size) (h : Wr st0 st id s) (hl : (s ++ t).size ≤ Lim47) :
    Does Tryz.prog 76 [.c (wP id), .g (eE e)] st fun r s' => r = .t [] ∧ Wr st0 s' id (s ++ t) := by
  have hc : cat [t] = t := ba_nilr t
  have hpu := put_does [t] (by show 1 ≤ Big; unfold Big; decide) (by simpa using ht) h (by rw [hc]; exact hl)
  rw [hc] at hpu
  cases e
  refine Does.of TP Tryz.func76 rfl rfl (Nat.le_of_ble_eq_true rfl) (Pw.of TP [] ?_)
  conv => whnf
  refine hpr.call ?_
  conv => whnf
  refine hpu.mono fun r s1 h1 => ?_
  obtain ⟨rfl, h1⟩ := h1
  conv => whnf
  exact Fin.same rfl (.refl _) ⟨rfl, h1⟩
/-- a list of one -/
theorem list1_does {st0 st : Sto} {id : Nat} {s : ByteArray} (g : Nat) (caps : List AC) (t : ByteArray) (hg : ∀ st, Wr st0 st id s → Does Tryz.prog g (vI .i64 0 :: caps.map .c) st fun r s' => r = .t [] ∧ Wr st0 s' id (s ++ t)) (h : Wr st0 st id s) :
    Does Tryz.prog 68 [.c (wP id), vI .i64 1, .c (.fn g caps)] st fun r s' => r = .t [] ∧ Wr st0 s' id (s ++ t) := by
  refine Does.of TP Tryz.func68 rfl rfl (Nat.le_of_ble_eq_true rfl) (Pw.of TP [] ?_)
  conv => whnf
  refine Pw.rngS (τ := Sto) 8 1 (by unfold Big; decide) [0, 2, 7] (fun _ _ => []) (fun _ y => y) (fun i y => Wr st0 y id (if i = 0 then s else s ++ t)) st rfl ⟨⟩ (.refl _) h fun i y hi hW => Pw.of TP [] ?_
  conv => whnf
  refine ⟨fun hc => ?_, fun hc => ?_⟩ <;> conv => whnf
  · obtain rfl : i = 0 := by omega
    refine ⟨fun h => absurd h (by decide), fun _ => ?_⟩
    conv => whnf
    refine (hg y hW).mono fun r s1 h1 => ?_
    obtain ⟨rfl, h1⟩ := h1
    conv => whnf
    exact ⟨by decide, rfl, ⟨rfl, rfl, rfl, trivial⟩, s1, trivial, .refl _, h1⟩
  · obtain rfl : i = 1 := by omega
    exact Fin.same rfl (.refl _) ⟨rfl, hW⟩
end Go.Proofs.YtgbdhakkgnmeoaaGreat.D
namespace Go.Proofs.YtgbdhakkgnmeoaaGreat.D
set_option linter.unusedVariables false
set_option linter.unusedSimpArgs false
open Go Go.Proofs.YtgbdhakkgnmeoaaGreat.D.Pm
set_option maxRecDepth 4000
def noE : Ex := .mk 0 0 ⟨0, 0, ⟨#[]⟩⟩ ⟨#[]⟩ []
def colA : Ex := .mk 2 0 ⟨0, 0, ⟨#[]⟩⟩ ⟨#[97]⟩ []
def lit3 : Ex := .mk 1 0 ⟨1, 3, ⟨#[]⟩⟩ ⟨#[]⟩ []
abbrev tS : ByteArray := ⟨#[116]⟩
abbrev aS : ByteArray := ⟨#[97]⟩
def wS : St := .mk 19 tS ⟨#[]⟩ ⟨#[]⟩ [] [] [] [[colA]] noE [] [⟨colA, true⟩] 3 0 false []
theorem between_is (a b c : Int) : Is Tryz.prog 81 [vI .i64 a, vI .i64 b, vI .i64 c] (vB (decide (b ≤ a) && decide (a ≤ c))) := by
  refine Is.of TP Tryz.func81 rfl rfl (Nat.le_of_ble_eq_true rfl) fun st => Pw.of TP [] ?_
  conv => whnf
  repeat' (first | (refine ⟨fun h => ?_, fun h => ?_⟩ <;> conv => whnf) | fail)
  all_goals (refine Fin.old (congrArg vB ?_) (.refl _); simp [*])
theorem none_is (e : Ex) (ok : okE e) : Is Tryz.prog 42 [.g (eE e)] (vB (eqE e noE)) := by
  have h := same_is e ok noE
  cases e
  refine Is.of TP Tryz.func42 rfl rfl (Nat.le_of_ble_eq_true rfl) fun st => Pw.of TP [] ?_
  conv => whnf
  refine Is.call (fun st => Does.argsD (as' := [.g (eE _), .g (eE noE)]) (fun _ => false) (fun id o h => ⟨h, rfl⟩) rfl ?_ (h st)) ?_
  · intro j r r' q1 q2
    match j, q1, q2 with
    | 0, q1, q2 => cases q1; cases q2; exact .refl _
    | 1, q1, q2 => cases q1; cases q2; exact .gl (.cons (.refl _) (.cons (.refl _) (.cons (.refl _) (.cons (.refl _) (.cons (.refl _) (.cons (.refl _) (.cons (.nil 7) .nil)))))))
    | j + 2, q1, q2 => simp at q2
  conv => whnf
  exact Fin.old rfl (.refl _)
theorem okNoE : okE noE := by unfold noE; simp only [okE, okEs]; decide
theorem okColA : okE colA := by unfold colA; simp only [okE, okEs]; decide
theorem printA : Is Tryz.prog 41 [.g (eE colA)] (.t [vS aS, vI .i64 0]) := print_is (fun _ => ⟨#[]⟩) colA okColA (by kernel_rfl) (by kernel_rfl) (by decide) (by decide)
theorem whereN_does {id : Nat} (st : Sto) : Does Tryz.prog 77 [.c (wP id), .g (eE noE)] st fun r s' => r = .t [] ∧ s' = st := by
  have h := none_is noE okNoE
  have e : eqE noE noE = true := by kernel_rfl
  rw [e] at h
  refine Does.of TP Tryz.func77 rfl rfl (Nat.le_of_ble_eq_true rfl) (Pw.of TP [] ?_)
  conv => whnf
  refine h.call ?_
  conv => whnf
  exact Fin.same rfl (.refl _) ⟨rfl, rfl⟩
theorem anys1_does {st0 st : Sto} {id : Nat} {s : ByteArray} (h : Wr st0 st id s) (hl : s.size ≤ 1000) :
    Does Tryz.prog 55 [.c (wP id), .c (.sl 7 (eEs [colA]))] st fun r s' => r = .t [] ∧ Wr st0 s' id (s ++ aS) := by
  have hg : ∀ st, Wr st0 st id s → Does Tryz.prog 79 (vI .i64 0 :: [AC.ep [wP id], AC.ep [.sl 7 (eEs [colA])]].map .c) st fun r s' => r = .t [] ∧ Wr st0 s' id (s ++ aS) := fun st h => by
    have hh := any12_does colA aS printA (by decide) h (by rw [ba_size]; unfold Lim47; show s.size + 1 ≤ _; omega)
    refine Does.of TP Tryz.func79 rfl rfl (Nat.le_of_ble_eq_true rfl) (Pw.of TP [] ?_)
    conv => whnf
    refine Pw.drwC TP mixed [5] (by kernel_rfl) ?_; conv => whnf
    refine ⟨by decide, by decide, _, rfl, ?_⟩
    conv => whnf
    refine hh.mono fun r s1 h1 => ?_
    obtain ⟨rfl, h1⟩ := h1
    conv => whnf
    exact Fin.same rfl (.refl _) ⟨rfl, h1⟩
  refine Does.of TP Tryz.func55 rfl rfl (Nat.le_of_ble_eq_true rfl) (Pw.of TP [] ?_)
  conv => whnf
  refine (list1_does _ _ aS hg h).mono fun r s1 h1 => ?_
  obtain ⟨rfl, h1⟩ := h1
  conv => whnf
  exact Fin.same rfl (.refl _) ⟨rfl, h1⟩
end Go.Proofs.YtgbdhakkgnmeoaaGreat.D
namespace Go.Proofs.YtgbdhakkgnmeoaaGreat.D
set_option linter.unusedVariables false
set_option linter.unusedSimpArgs false
open Go Go.Proofs.YtgbdhakkgnmeoaaGreat.D.Pm
set_option maxRecDepth 4000
theorem digits3_is : Is Tryz.prog 112 [vI .i64 3] (vS ⟨#[51]⟩) := by
  refine Is.of TP Tryz.func112 rfl rfl (Nat.le_of_ble_eq_true rfl) fun st => Pw.of TP [] ?_
  conv => whnf
  refine ⟨rfl, fun id hid => ?_⟩
  conv => whnf
  refine ⟨rfl, ?_⟩
  conv => whnf
  refine ⟨fun h => absurd h (by decide), fun _ => ?_⟩
  conv => whnf
  refine Pw.lpS (σ := Unit) [0, 3] (fun _ => [(4, vI .u64 3), (5, vI .i64 20)]) (fun _ => upd st id (.ar 1 (List.replicate 20 [.v (.int .u8 0)]))) (fun _ => True) (fun _ => 0) () ⟨rfl, rfl, trivial⟩ (.refl _) trivial fun _ _ => Pw.of TP [] ?_
  conv => whnf
  refine ⟨by decide, ?_⟩
  conv => whnf
  refine ⟨rfl, ?_⟩
  conv => whnf
  refine ⟨by decide, by decide, ⟨_, upd_same _ _ _⟩, ?_⟩
  conv => whnf
  refine ⟨_, _, _, upd_same _ _ _, rfl, Nat.le_of_ble_eq_true rfl, ?_⟩
  conv => whnf
  refine ⟨by decide, ?_⟩
  conv => whnf
  refine ⟨fun _ => ?_, fun h => absurd rfl h⟩
  conv => whnf
  refine ⟨fun h => absurd h (by decide), fun _ => ?_⟩
  conv => whnf
  refine ⟨by unfold maxLen; decide, ⟨_, upd_same _ _ _, rfl⟩, ?_⟩
  conv => whnf
  refine ⟨by decide, by decide, Int.le_refl _, ?_⟩
  conv => whnf
  refine ⟨_, ⟨#[51]⟩, upd_same _ _ _, by decide, rfl, ?_⟩
  conv => whnf
  exact Fin.old rfl (((Le.refl st).up hid).up2 hid)
theorem show3_is : Is Tryz.prog 93 [.g (eV ⟨1, 3, ⟨#[]⟩⟩)] (vS ⟨#[51]⟩) := by
  refine Is.of TP Tryz.func93 rfl rfl (Nat.le_of_ble_eq_true rfl) fun st => Pw.of TP [] ?_
  conv => whnf
  refine ⟨fun h => absurd h (by decide), fun _ => ?_⟩
  conv => whnf
  refine ⟨fun _ => ?_, fun h => absurd rfl h⟩
  conv => whnf
  refine digits3_is.call ?_
  conv => whnf
  exact Fin.old rfl (.refl _)
theorem writeL_does {Tt : TypeId} (bt : BT Tt) {id : Nat} {st0 st : Sto} {a b : AC} {s : ByteArray} (h : Bl st0 st id Tt 5 a b s) (hl : s.size ≤ 1000) :
    Does Tryz.prog 62 [.g [.ab (bmA 61 (bP id Tt))], .g (eE lit3)] st fun r s' => r = .t [] ∧ ∃ a b, Bl st0 s' id Tt 5 a b (s ++ ⟨#[51]⟩) := by
  refine Does.of TP Tryz.func62 rfl rfl (Nat.le_of_ble_eq_true rfl) (Pw.of TP [] ?_)
  conv => whnf
  refine ⟨fun _ => ?_, fun h => absurd rfl h⟩
  conv => whnf
  refine Pw.drwC TP mixed [5] (by kernel_rfl) ?_; conv => whnf
  refine Is.draw show3_is ?_
  conv => whnf
  refine ⟨_, _, rfl, ?_⟩
  conv => whnf
  refine (wstr_does bt h ⟨#[51]⟩ (by decide) (by show s.size + 1 ≤ _; omega)).mono fun r s1 hh => ?_
  obtain ⟨⟨n1, rfl⟩, hh⟩ := hh
  conv => whnf
  exact Fin.same rfl (.refl _) ⟨rfl, hh⟩
theorem okLit3 : okE lit3 := by unfold lit3; simp only [okE, okEs]; decide
theorem printL : Is Tryz.prog 41 [.g (eE lit3)] (.t [vS ⟨#[51]⟩, vI .i64 0]) := by
  have hk := check_is lit3 okLit3 true
  have hc : checkE true lit3 = 0 := by kernel_rfl
  rw [hc] at hk
  intro st
  refine Does.of TP Tryz.func41 rfl rfl (Nat.le_of_ble_eq_true rfl) (Pw.of TP [4] ?_)
  conv => whnf
  refine hk.call ?_
  conv => whnf
  refine ⟨fun h => absurd rfl h, fun _ => ?_⟩
  conv => whnf
  refine Pw.seq (Pw.regionX TP (sp := fun o env st K => OpOk Tryz.prog _ o env st K) (fun _ _ _ _ h => h) ?_)
  conv => whnf
  refine .inl ⟨rfl, OpOk.allocT TP rfl rfl fun id hid => ?_⟩
  conv => whnf
  have hB0 : Bl st (upd st id (.bx [.v (.pointer none), .v (.slice none 0 0)])) id 70 5 (.v (.pointer none)) (.v (.slice none 0 0)) ⟨#[]⟩ := ⟨(Le.refl st).up hid, hid, upd_same _ _ _, .inl rfl, .inl ⟨rfl, rfl⟩⟩
  refine Pw.of TP [] ?_
  conv => whnf
  refine (writeL_does BT.self hB0 (by decide)).mono fun r s1 h1 => ?_
  obtain ⟨rfl, a1, b1, h1⟩ := h1
  rw [ba_nil] at h1
  conv => whnf
  refine (blen_is h1).mono fun r s2 h2 => ?_
  obtain ⟨rfl, rfl⟩ := h2
  conv => whnf
  refine ⟨fun hc => absurd hc (by decide), fun _ => ?_⟩
  conv => whnf
  refine (bstr_does h1 (by decide)).mono fun r s2 h2 => ?_
  obtain ⟨rfl, rfl⟩ := h2
  conv => whnf
  exact Fin.same rfl (.refl _) ⟨rfl, rfl⟩
theorem printN : Is Tryz.prog 41 [.g (eE noE)] (.t [vS ⟨#[]⟩, vI .i64 2]) := by
  have hk := check_is noE okNoE true
  have hc : checkE true noE = 2 := by kernel_rfl
  rw [hc] at hk
  refine Is.of TP Tryz.func41 rfl rfl (Nat.le_of_ble_eq_true rfl) fun st => Pw.of TP [] ?_
  conv => whnf
  refine hk.call ?_
  conv => whnf
  refine ⟨fun _ => ?_, fun h => absurd (by decide) h⟩
  conv => whnf
  exact Fin.old rfl (.refl _)
end Go.Proofs.YtgbdhakkgnmeoaaGreat.D
namespace Go.Proofs.YtgbdhakkgnmeoaaGreat.D
set_option linter.unusedVariables false
set_option linter.unusedSimpArgs false
open Go Go.Proofs.YtgbdhakkgnmeoaaGreat.D.Pm
set_option maxRecDepth 4000
abbrev kSel : ByteArray := ⟨#[83, 69, 76, 69, 67, 84, 32]⟩
abbrev kFrom : ByteArray := ⟨#[32, 70, 82, 79, 77, 32]⟩
abbrev kOrd : ByteArray := ⟨#[32, 79, 82, 68, 69, 82, 32, 66, 89, 32]⟩
abbrev kDesc : ByteArray := ⟨#[32, 68, 69, 83, 67]⟩
abbrev kLim : ByteArray := ⟨#[32, 76, 73, 77, 73, 84, 32]⟩
def T1 : ByteArray := ⟨#[]⟩ ++ cat [kSel]
def T2 : ByteArray := T1 ++ aS
def T3 : ByteArray := T2 ++ cat [kFrom, tS]
def T4 : ByteArray := T3 ++ cat [kOrd]
def T5 : ByteArray := T4 ++ (aS ++ cat [kDesc])
def T6 : ByteArray := T5 ++ cat [kLim]
def T7 : ByteArray := T6 ++ ⟨#[51]⟩
theorem big1 : (1 : Nat) ≤ Big := by unfold Big; decide
theorem big2 : (2 : Nat) ≤ Big := by unfold Big; decide
theorem choice1_does {st0 st : Sto} {id : Nat} (h : Wr st0 st id T4) : Does Tryz.prog 102 (vI .i64 0 :: [AC.ep [wP id], AC.ep (eSt wS)].map .c) st fun r s' => r = .t [] ∧ Wr st0 s' id T5 := by
  refine Does.of TP Tryz.func102 rfl rfl (Nat.le_of_ble_eq_true rfl) (Pw.of TP [] ?_)
  conv => whnf
  refine Pw.drwC TP mixed [7] (by kernel_rfl) ?_; conv => whnf
  refine ⟨by decide, by decide, _, rfl, ?_⟩
  conv => whnf
  refine (any12_does colA aS printA (by decide) h (Nat.le_of_ble_eq_true (by kernel_rfl))).mono fun r s1 h1 => ?_
  obtain ⟨rfl, h1⟩ := h1
  conv => whnf
  refine ⟨by decide, by decide, _, rfl, ?_⟩
  conv => whnf
  refine (put_does [kDesc] big1 (by decide) h1 (Nat.le_of_ble_eq_true (by kernel_rfl))).mono fun r s2 h2 => ?_
  obtain ⟨rfl, h2⟩ := h2
  conv => whnf
  exact Fin.same rfl (.refl _) ⟨rfl, by rw [ba_assoc] at h2; exact h2⟩
theorem choice_does {st0 st : Sto} {id : Nat} (h : Wr st0 st id ⟨#[]⟩) : Does Tryz.prog 78 [.c (wP id), .g (eSt wS)] st fun r s' => r = .t [] ∧ Wr st0 s' id T7 := by
  refine Does.of TP Tryz.func78 rfl rfl (Nat.le_of_ble_eq_true rfl) (Pw.of TP [] ?_)
  conv => whnf
  refine (put_does [kSel] big1 (by decide) h (Nat.le_of_ble_eq_true (by kernel_rfl))).mono fun r s1 h1 => ?_
  obtain ⟨rfl, h1⟩ := h1
  conv => whnf
  refine ⟨fun h => absurd h (by decide), fun _ => ?_⟩
  conv => whnf
  refine Pw.drwC TP mixed [5] (by kernel_rfl) ?_; conv => whnf
  refine ⟨by decide, by decide, _, rfl, ?_⟩
  conv => whnf
  refine (anys1_does (s := T1) h1 (by decide)).mono fun r s2 h2 => ?_
  obtain ⟨rfl, h2⟩ := h2
  conv => whnf
  refine (put_does (s := T2) [kFrom, tS] big2 (by decide) h2 (Nat.le_of_ble_eq_true (by kernel_rfl))).mono fun r s3 h3 => ?_
  obtain ⟨rfl, h3⟩ := h3
  conv => whnf
  refine (whereN_does s3).mono fun r s4 h4 => ?_
  obtain ⟨rfl, rfl⟩ := h4
  conv => whnf
  refine ⟨fun _ => ?_, fun h => absurd (by decide) h⟩
  conv => whnf
  refine (put_does (s := T3) [kOrd] big1 (by decide) h3 (Nat.le_of_ble_eq_true (by kernel_rfl))).mono fun r s5 h5 => ?_
  obtain ⟨rfl, h5⟩ := h5
  conv => whnf
  refine (list1_does (s := T4) _ _ _ (fun st h => choice1_does h) h5).mono fun r s6 h6 => ?_
  obtain ⟨rfl, h6⟩ := h6
  conv => whnf
  refine ⟨fun _ => ?_, fun h => absurd (by decide) h⟩
  conv => whnf
  refine (put_does (s := T5) [kLim] big1 (by decide) h6 (Nat.le_of_ble_eq_true (by kernel_rfl))).mono fun r s7 h7 => ?_
  obtain ⟨rfl, h7⟩ := h7
  conv => whnf
  refine Does.argsD (as' := [.c (wP id), .g (eE lit3)]) (fun _ => false) (fun id o h => ⟨h, rfl⟩) rfl ?_ ((any12_does (s := T6) lit3 ⟨#[51]⟩ printL (by decide) h7 (Nat.le_of_ble_eq_true (by kernel_rfl))).mono fun r s8 h8 => ?_)
  · intro j r r' q1 q2
    match j, q1, q2 with
    | 0, q1, q2 => cases q1; cases q2; exact .refl _
    | 1, q1, q2 => cases q1; cases q2; exact .gl (.cons (.refl _) (.cons (.refl _) (.cons (.refl _) (.cons (.refl _) (.cons (.refl _) (.cons (.refl _) (.cons (.nil 7) .nil)))))))
    | j + 2, q1, q2 => simp at q2
  obtain ⟨rfl, h8⟩ := h8
  conv => whnf
  exact Fin.same rfl (.refl _) ⟨rfl, h8⟩
theorem rows12_does {st0 st : Sto} {id : Nat} (h : Wr st0 st id ⟨#[]⟩) : Does Tryz.prog 53 [.c (wP id), .g (eSt wS)] st fun r s' => r = .t [] ∧ Wr st0 s' id T7 := by
  refine Does.of TP Tryz.func53 rfl rfl (Nat.le_of_ble_eq_true rfl) (Pw.of TP [] ?_)
  conv => whnf
  refine ⟨fun h => absurd h (by decide), fun _ => ?_⟩
  conv => whnf
  refine ⟨fun h => absurd h (by decide), fun _ => ?_⟩
  conv => whnf
  refine ⟨fun h => absurd h (by decide), fun _ => ?_⟩
  conv => whnf
  refine ⟨fun _ => ?_, fun h => absurd rfl h⟩
  conv => whnf
  refine (choice_does h).mono fun r s1 h1 => ?_
  obtain ⟨rfl, h1⟩ := h1
  conv => whnf
  exact Fin.same rfl (.refl _) ⟨rfl, h1⟩
theorem write12_does {st0 st : Sto} {id : Nat} (h : Wr st0 st id ⟨#[]⟩) : Does Tryz.prog 32 [.c (wP id), .g (eSt wS)] st fun r s' => r = .t [] ∧ Wr st0 s' id T7 := by
  refine Does.of TP Tryz.func32 rfl rfl (Nat.le_of_ble_eq_true rfl) (Pw.of TP [] ?_)
  conv => whnf
  refine ⟨fun h => absurd h (by decide), fun _ => ?_⟩
  conv => whnf
  refine ⟨fun h => absurd h (by decide), fun _ => ?_⟩
  conv => whnf
  refine ⟨fun _ => ?_, fun h => absurd (by decide) h⟩
  conv => whnf
  refine (rows12_does h).mono fun r s1 h1 => ?_
  obtain ⟨rfl, h1⟩ := h1
  conv => whnf
  exact Fin.same rfl (.refl _) ⟨rfl, h1⟩
end Go.Proofs.YtgbdhakkgnmeoaaGreat.D
