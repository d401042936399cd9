/- Words and contracts: a plain machine over the model, and what the functions that a law reaches come to, each for every input that its theorem names. -/
import Derived.Test.YtfkkajibaeppbaaK5
namespace Go.Proofs.Ytfkkajibaeppbaa.D
set_option linter.unusedVariables false
set_option linter.unusedSimpArgs false
open Go Go.Proofs.Ytfkkajibaeppbaa.D.Pm
set_option maxRecDepth 4000
structure HAct where
  mk ::
  op : Int
  of : Bool
  page : Int
  slot : Int
  data : By
def eHA (a : HAct) : List AC := [.v (.int .i64 a.op), .v (.bool a.of), .v (.int .i64 a.page), .v (.int .i64 a.slot), .sl 1 (byl a.data)]
theorem hlong_is (a : HAct) : Is Try.prog 27 [.g (eHA a)] (vB (decide (400 < a.data.length))) := by
  have hbl : ((byl a.data).length : Int) = (a.data.length : Int) := by rw [byl_length]
  refine Is.of TP Try.func27 rfl rfl (Nat.le_of_ble_eq_true rfl) fun st => Pw.of TP [] ?_
  conv => whnf
  rw [hbl]
  refine ⟨fun h => ?_, fun h => ?_⟩ <;> conv => whnf
  · exact Fin.old (congrArg vB (decide_eq_true (by omega)).symm) (.refl _)
  · exact Fin.old (congrArg vB (decide_eq_false (by omega)).symm) (.refl _)
def z200 : By := List.replicate 200 0
theorem z1 : putH [] z200 = ([[some z200]], (0, 0), 0) := by decide +kernel
theorem z2 : putH [[some z200]] z200 = ([[some z200, some z200]], (0, 1), 0) := by decide +kernel
theorem z3 : putH [[some z200, some z200]] z200 = ([[some z200, some z200], [some z200]], (1, 0), 0) := by decide +kernel
theorem okH_nil : OkH [] := ⟨fun L h => (by cases h), Nat.zero_le _⟩
/-- data in memory, as it goes into a call -/
theorem Does.live {f : FuncId} {pre : List AV} {st : Sto} {id n : Nat} {d : By} {K : AV → Sto → Prop} (hs : LiveP st id d) (hn : n = d.length) (h : Does Try.prog f (pre ++ [.c (.sl 1 (byl d))]) (del st id) K) : Does Try.prog f (pre ++ [.c (.arr id 0 n)]) st K := by
  refine Does.argsD (only id) (st' := del st id) (fun i o hi => ?_) (by simp) (fun j r r' h1 h2 => ?_) h
  · unfold del at hi
    split at hi
    · cases hi
    · rename_i e; exact ⟨hi, by simp [only, e]⟩
  · by_cases hj : j < pre.length
    · rw [List.getElem?_append_left hj] at h1 h2
      rw [h1] at h2; cases h2; exact .refl _
    · rw [List.getElem?_append_right (by omega)] at h1 h2
      match hq : j - pre.length, h1, h2 with
      | 0, h1, h2 => cases h1; cases h2; exact FV.live hs hn
      | q + 1, h1, h2 => simp at h1
theorem HAt.del {s : Sto} {hid id : Nat} {Ls : Pgs} {x : AC} (h : HAt s hid Ls x) (hn : ¬ ow hid x id) : HAt (Pm.del s id) hid Ls x :=
  ⟨by unfold Pm.del; rw [if_neg (fun e => hn (.inl e.symm))]; exact h.bx, h.li.mono fun i l o e ho => by unfold Pm.del; rw [if_neg (fun e2 => by subst e2; exact hn (.inr ⟨l, e⟩))]; exact ho⟩
theorem Chg.updel {a : Sto} {A : Nat → Prop} {id : Nat} {o : Ob} (hn : a id = none) : Chg a (Pm.del (Pm.upd a id o) id) A A := fun i p hi hA => by
  have : i ≠ id := fun e => by subst e; rw [hn] at hi; cases hi
  unfold Pm.del Pm.upd
  rw [if_neg this, if_neg this]
  exact ⟨hi, hA⟩
theorem hput_fresh {s : Sto} {hid id n : Nat} {Ls : Pgs} {x : AC} (hH : HAt s hid Ls x) (hO : OkH Ls) {d : By} (hn : s id = none) (hl : n = d.length) (hd : d.length ≤ 100000) : Does Try.prog 36 ([.c (.ptr hid 0)] ++ [.c (.arr id 0 n)]) (upd s id (.ar 1 (byl d))) fun r s' => r = .t [.g (rid (putH Ls d).2.1), vI .i64 ((putH Ls d).2.2 : Nat)] ∧ ∃ x', HAt s' hid (putH Ls d).1 x' ∧ Chg s s' (ow hid x) (ow hid x') := by
  refine Does.live (d := d) (upd_same _ _ _) hl ?_
  refine (hput_does ((hH.upd (hH.new hn)).del (hH.new hn)) hO (by omega)).mono fun r s' h => ?_
  obtain ⟨rfl, x', h1, h2⟩ := h
  exact ⟨rfl, x', h1, (Chg.updel hn).trans h2⟩
theorem Chg.le {a s1 s2 : Sto} {A B : Nat → Prop} (hle : Le a s1) (c : Chg s1 s2 A B) (hA : ∀ i o, a i = some o → ¬ A i) : Le a s2 ∧ ∀ i o, a i = some o → ¬ B i :=
  ⟨fun i o h => (c i o (hle i o h) (hA i o h)).1, fun i o h => (c i o (hle i o h) (hA i o h)).2⟩
theorem hworks_is : Is Try.prog 28 [] (vB true) := by
  have e200 : List.replicate 200 [AC.v (.int .u8 0)] = byl z200 := by unfold z200; rw [byl_rep]
  have k1 := putH_ok okH_nil z200
  rw [z1] at k1
  have k2 := putH_ok k1 z200
  rw [z2] at k2
  have k3 := putH_ok k2 z200
  rw [z3] at k3
  refine Is.of TP Try.func28 rfl rfl (Nat.le_of_ble_eq_true rfl) fun st => Pw.of TP [] ?_
  conv => whnf
  refine (hnew_does st).mono fun r s1 h => ?_
  obtain ⟨hid, rfl, h0, hH, hle⟩ := h
  have hA : ∀ i o, st i = some o → ¬ ow hid (.v (.slice none 0 0)) i := fun i o h e => by
    rcases e with e | ⟨l, e⟩
    · subst e; rw [h0] at h; cases h
    · cases e
  conv => whnf
  refine ⟨rfl, by decide, by decide, by decide, by decide, by decide, fun id hid1 => ?_⟩
  have p1 := hput_fresh hH okH_nil (d := z200) (n := 200) hid1 (by decide) (by decide)
  rw [← e200, z1] at p1
  conv => whnf
  refine p1.mono fun r s2 h => ?_
  obtain ⟨rfl, x2, hH2, hc⟩ := h
  obtain ⟨hle, hA⟩ := Chg.le hle hc hA
  conv => whnf
  refine ⟨rfl, by decide, by decide, by decide, by decide, by decide, fun id hid1 => ?_⟩
  have p2 := hput_fresh hH2 k1 (d := z200) (n := 200) hid1 (by decide) (by decide)
  rw [← e200, z2] at p2
  conv => whnf
  refine p2.mono fun r s3 h => ?_
  obtain ⟨rfl, x3, hH3, hc⟩ := h
  obtain ⟨hle, hA⟩ := Chg.le hle hc hA
  conv => whnf
  refine ⟨rfl, by decide, by decide, by decide, by decide, by decide, fun id hid1 => ?_⟩
  have p3 := hput_fresh hH3 k2 (d := z200) (n := 200) hid1 (by decide) (by decide)
  rw [← e200, z3] at p3
  conv => whnf
  refine p3.mono fun r s4 h => ?_
  obtain ⟨rfl, x4, hH4, hc⟩ := h
  obtain ⟨hle, hA⟩ := Chg.le hle hc hA
  have hlen := hlen_does hH4 k3
  have e3 : (itH 0 [[some z200, some z200], [some z200]]).length = 3 := by decide +kernel
  rw [e3] at hlen
  conv => whnf
  refine ⟨fun _ => ?_, fun h => absurd rfl h⟩
  conv => whnf
  refine ⟨fun _ => ?_, fun h => absurd rfl h⟩
  conv => whnf
  refine ⟨fun _ => ?_, fun h => absurd rfl h⟩
  conv => whnf
  refine ⟨fun _ => ?_, fun h => absurd ⟨rfl, rfl, trivial⟩ h⟩
  conv => whnf
  refine ⟨fun _ => ?_, fun h => absurd ⟨rfl, rfl, trivial⟩ h⟩
  conv => whnf
  refine ⟨fun _ => ?_, fun h => absurd ⟨rfl, rfl, trivial⟩ h⟩
  conv => whnf
  refine hlen.go ?_
  conv => whnf
  refine ⟨fun _ => ?_, fun h => absurd rfl h⟩
  conv => whnf
  exact Fin.old rfl hle
end Go.Proofs.Ytfkkajibaeppbaa.D
namespace Go.Proofs.Ytfkkajibaeppbaa.D
set_option linter.unusedVariables false
set_option linter.unusedSimpArgs false
open Go Go.Proofs.Ytfkkajibaeppbaa.D.Pm
set_option maxRecDepth 4000
abbrev Dead (q : AC) : Prop := Is Try.prog 55 [.c q] (vB true)
theorem dead_ep : Dead (.ep [.v (.slice none 0 0), .v (.bool false)]) := by
  refine Is.of TP Try.func55 rfl rfl (Nat.le_of_ble_eq_true rfl) fun st => Pw.of TP [] ?_
  conv => whnf
  exact Fin.pure
theorem dput {q : AC} (hq : Dead q) (d : AV) : Is Try.prog 36 [.c q, d] (.t [.g (rid (0, 0)), vI .i64 1]) := by
  refine Is.of TP Try.func36 rfl rfl (Nat.le_of_ble_eq_true rfl) fun st => Pw.of TP [] ?_
  conv => whnf
  intro id4 h4
  conv => whnf
  refine hq.call ?_
  conv => whnf
  (apply Exists.intro; apply And.intro; (first | ((with_reducible (repeat (refine Eq.trans (upd_ne _ ?_) ?_; (first | assumption | (apply Ne.symm; assumption))))); first | exact upd_same _ _ _ | assumption) | ((repeat (refine Eq.trans (upd_ne _ ?_) ?_; (first | assumption | (apply Ne.symm; assumption)))); first | exact upd_same _ _ _ | assumption)); refine ⟨Nat.le_of_ble_eq_true rfl, ?_⟩; conv => whnf)
  (apply Exists.intro; apply And.intro; (first | ((with_reducible (repeat (refine Eq.trans (upd_ne _ ?_) ?_; (first | assumption | (apply Ne.symm; assumption))))); first | exact upd_same _ _ _ | assumption) | ((repeat (refine Eq.trans (upd_ne _ ?_) ?_; (first | assumption | (apply Ne.symm; assumption)))); first | exact upd_same _ _ _ | assumption)); conv => whnf)
  exact Fin.same rfl ((Le.up (.refl _) h4).up2 h4) ⟨rfl, rfl⟩
theorem dset {q : AC} (hq : Dead q) (p s : Int) (d : AV) : Is Try.prog 37 [.c q, .g (ridI p s), d] (.t [.g (rid (0, 0)), vI .i64 1]) := by
  refine Is.of TP Try.func37 rfl rfl (Nat.le_of_ble_eq_true rfl) fun st => Pw.of TP [] ?_
  conv => whnf
  intro id4 h4
  conv => whnf
  refine hq.call ?_
  conv => whnf
  (apply Exists.intro; apply And.intro; (first | ((with_reducible (repeat (refine Eq.trans (upd_ne _ ?_) ?_; (first | assumption | (apply Ne.symm; assumption))))); first | exact upd_same _ _ _ | assumption) | ((repeat (refine Eq.trans (upd_ne _ ?_) ?_; (first | assumption | (apply Ne.symm; assumption)))); first | exact upd_same _ _ _ | assumption)); refine ⟨Nat.le_of_ble_eq_true rfl, ?_⟩; conv => whnf)
  (apply Exists.intro; apply And.intro; (first | ((with_reducible (repeat (refine Eq.trans (upd_ne _ ?_) ?_; (first | assumption | (apply Ne.symm; assumption))))); first | exact upd_same _ _ _ | assumption) | ((repeat (refine Eq.trans (upd_ne _ ?_) ?_; (first | assumption | (apply Ne.symm; assumption)))); first | exact upd_same _ _ _ | assumption)); conv => whnf)
  exact Fin.same rfl ((Le.up (.refl _) h4).up2 h4) ⟨rfl, rfl⟩
theorem dget {q : AC} (hq : Dead q) (p s : Int) : Is Try.prog 32 [.c q, .g (ridI p s)] (.t [.c (.v (.slice none 0 0)), vI .i64 1]) := by
  refine Is.of TP Try.func32 rfl rfl (Nat.le_of_ble_eq_true rfl) fun st => Pw.of TP [] ?_
  conv => whnf
  refine hq.call ?_
  conv => whnf
  exact Fin.pure
theorem ddrop {q : AC} (hq : Dead q) (p s : Int) : Is Try.prog 38 [.c q, .g (ridI p s)] (vI .i64 1) := by
  refine Is.of TP Try.func38 rfl rfl (Nat.le_of_ble_eq_true rfl) fun st => Pw.of TP [] ?_
  conv => whnf
  refine hq.call ?_
  conv => whnf
  exact Fin.pure
theorem dall {q : AC} (hq : Dead q) : Is Try.prog 30 [.c q] (.c (.v (.slice none 0 0))) := by
  refine Is.of TP Try.func30 rfl rfl (Nat.le_of_ble_eq_true rfl) fun st => Pw.of TP [] ?_
  conv => whnf
  refine hq.call ?_
  conv => whnf
  exact Fin.pure
theorem dpages {q : AC} (hq : Dead q) : Is Try.prog 39 [.c q] (.c (.v (.slice none 0 0))) := by
  refine Is.of TP Try.func39 rfl rfl (Nat.le_of_ble_eq_true rfl) fun st => Pw.of TP [] ?_
  conv => whnf
  refine hq.call ?_
  conv => whnf
  exact Fin.pure
theorem dlen {q : AC} (hq : Dead q) : Is Try.prog 33 [.c q] (vI .i64 0) := by
  refine Is.of TP Try.func33 rfl rfl (Nat.le_of_ble_eq_true rfl) fun st => Pw.of TP [] ?_
  conv => whnf
  refine hq.call ?_
  conv => whnf
  exact Fin.pure
theorem heapNone_law0 (a : HAct) (hw : True) : Is Try.prog 9 [.g (eHA a)] (vB true) := by
  refine Is.of TP Try.func9 rfl rfl (Nat.le_of_ble_eq_true rfl) fun st => Pw.of TP [] ?_
  conv => whnf
  refine Pw.rng (τ := Unit) 5 2 (by decide) [1, 4] (fun _ => []) (fun k _ => True) () rfl trivial trivial fun k _ hk hf => Pw.of TP [] ?_
  conv => whnf
  refine ⟨fun hk1 => ?_, fun hk1 => ?_⟩ <;> conv => whnf
  rotate_left
  · refine hworks_is.call ?_
    conv => whnf
    exact Fin.old rfl (.refl _)
  have hk1 : k < 2 := by have h : (k : Int) < ((2 : Nat) : Int) := hk1; omega
  obtain ⟨q, hq, key⟩ : ∃ q, Dead q ∧ ∀ F : List AC → Prop, F [q] → 0 ≤ (k : Int) ∧ (k : Int) < ((2 : Nat) : Int) ∧ ∃ r, ([[.v (.pointer none)], [.ep [.v (.slice none 0 0), .v (.bool false)]]] : List (List AC))[(k : Int).toNat]? = some r ∧ F r := by
    match k, hk1 with
    | 0, _ => exact ⟨_, dead_nil, fun F h => ⟨by decide, by decide, _, rfl, h⟩⟩
    | 1, _ => exact ⟨_, dead_ep, fun F h => ⟨by decide, by decide, _, rfl, h⟩⟩
  refine Pw.drwC TP mixed [10, 11, 12] (by kernel_rfl) ?_; conv => whnf
  refine key _ ?_
  conv => whnf
  refine (dput hq _).draw ?_
  conv => whnf
  intro id6 h6
  conv => whnf
  (apply Exists.intro; apply And.intro; (first | ((with_reducible (repeat (refine Eq.trans (upd_ne _ ?_) ?_; (first | assumption | (apply Ne.symm; assumption))))); first | exact upd_same _ _ _ | assumption) | ((repeat (refine Eq.trans (upd_ne _ ?_) ?_; (first | assumption | (apply Ne.symm; assumption)))); first | exact upd_same _ _ _ | assumption)); refine ⟨Nat.le_of_ble_eq_true rfl, ?_⟩; conv => whnf)
  refine Pw.drwC TP mixed [12, 13, 14] (by kernel_rfl) ?_; conv => whnf
  refine key _ ?_
  conv => whnf
  refine (dset hq _ _ _).draw ?_
  conv => whnf
  intro id8 h8
  conv => whnf
  (apply Exists.intro; apply And.intro; (first | ((with_reducible (repeat (refine Eq.trans (upd_ne _ ?_) ?_; (first | assumption | (apply Ne.symm; assumption))))); first | exact upd_same _ _ _ | assumption) | ((repeat (refine Eq.trans (upd_ne _ ?_) ?_; (first | assumption | (apply Ne.symm; assumption)))); first | exact upd_same _ _ _ | assumption)); refine ⟨Nat.le_of_ble_eq_true rfl, ?_⟩; conv => whnf)
  refine Pw.drw TP mixed (by kernel_rfl) ?_; conv => whnf
  refine key _ ?_
  conv => whnf
  refine (dget hq _ _).draw ?_
  conv => whnf
  have h86 : id8 ≠ id6 := fun e => by subst e; rw [upd_same] at h8; cases h8
  refine Pw.drw TP mixed (by kernel_rfl) ?_; conv => whnf
  refine ⟨fun h => absurd rfl h, fun _ => ?_⟩
  conv => whnf
  refine ⟨fun h => absurd rfl h, fun _ => ?_⟩
  conv => whnf
  refine ⟨fun h => absurd rfl h, fun _ => ?_⟩
  conv => whnf
  refine key _ ?_
  conv => whnf
  refine (ddrop hq _ _).draw ?_
  conv => whnf
  refine ⟨fun h => absurd rfl h, fun _ => ?_⟩
  conv => whnf
  refine ⟨_, (upd_ne _ h86.symm).trans ((upd_ne _ h86.symm).trans (upd_same _ _ _)), ?_⟩
  conv => whnf
  refine ⟨fun h => absurd ⟨rfl, rfl, trivial⟩ h, fun _ => ?_⟩
  conv => whnf
  refine ⟨_, upd_same _ _ _, ?_⟩
  conv => whnf
  refine ⟨fun h => absurd ⟨rfl, rfl, trivial⟩ h, fun _ => ?_⟩
  conv => whnf
  refine key _ ?_
  conv => whnf
  refine (dall hq).draw ?_
  conv => whnf
  refine key _ ?_
  conv => whnf
  refine (dpages hq).draw ?_
  conv => whnf
  refine key _ ?_
  conv => whnf
  refine (dlen hq).draw ?_
  conv => whnf
  refine ⟨fun h => absurd (by decide) h, fun _ => ?_⟩
  conv => whnf
  have h80 : st id8 = none := by rw [upd_ne _ h86, upd_ne _ h86] at h8; exact h8
  exact ⟨hk1, rfl, ⟨rfl, rfl, trivial⟩, (), trivial, ((((Le.refl _).up2 h6).up2 h6).up2 h80).up2 h80, trivial⟩
end Go.Proofs.Ytfkkajibaeppbaa.D
namespace Go.Proofs.Ytfkkajibaeppbaa.D
set_option linter.unusedVariables false
set_option linter.unusedSimpArgs false
open Go Go.Proofs.Ytfkkajibaeppbaa.D.Pm
set_option maxRecDepth 4000
theorem rdRid (m : Nat) : Rd Try.prog 53 (fun a : Int × Int => ridI a.1 a.2) (fun a => I64 a.1 ∧ I64 a.2) m :=
  (Rd.st (fun a : Int × Int => a) (by exact fun a => ⟨rfl, fun h => h⟩) Try.underlying53 (by kernel_rfl)
    (RdF.cons (s1 := 1) rfl (by kernel_rfl) (Rd.int Try.underlying3) (RdF.last (sz := 1) rfl (by kernel_rfl) (Rd.int Try.underlying3)))).less
def wfHAct (a : HAct) : Prop := I64 a.op ∧ I64 a.page ∧ I64 a.slot ∧ a.data.length ≤ maxLen
theorem rdHAct (m : Nat) : Rd Try.prog 55 eHA wfHAct m :=
  (Rd.st (fun a : Int × Bool × (Int × Int) × By => (⟨a.1, a.2.1, a.2.2.1.1, a.2.2.1.2, a.2.2.2⟩ : HAct)) (by exact fun a => ⟨rfl, fun h => ⟨h.1, h.2.2.1.1, h.2.2.1.2, h.2.2.2⟩⟩) Try.underlying55 (by kernel_rfl)
    (RdF.cons (s1 := 1) rfl (by kernel_rfl) (Rd.int Try.underlying3) (RdF.cons (s1 := 1) rfl (by kernel_rfl) (Rd.bool Try.underlying4) (RdF.cons (s1 := 2) rfl (by kernel_rfl) (rdRid _) (RdF.last (sz := 1) rfl (by kernel_rfl) (rdBy _)))))).less
def wfHActs (l : List HAct) : Prop := l.length ≤ maxLen ∧ ∀ a ∈ l, wfHAct a
theorem rdHActs (m : Nat) : Rd Try.prog 51 (fun l => [.sl 5 (l.map eHA)]) wfHActs m := Rd.sl (sz := 5) (by decide) Try.underlying51 (by kernel_rfl) (rdHAct m)
end Go.Proofs.Ytfkkajibaeppbaa.D
