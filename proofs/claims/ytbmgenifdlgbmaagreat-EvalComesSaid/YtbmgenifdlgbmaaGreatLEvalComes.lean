/- Words and contracts: a plain machine over the model, and what the functions that a law reaches come to, each for every input that its theorem names. -/
import Derived.Test.YtbmgenifdlgbmaaGreatK3
import Derived.Test.YtbmgenifdlgbmaaGreatV2
namespace Go.Proofs.YtbmgenifdlgbmaaGreat.D
set_option linter.unusedVariables false
set_option linter.unusedSimpArgs false
open Go Go.Proofs.YtbmgenifdlgbmaaGreat.D.Pm
set_option maxRecDepth 4000
def I64 (n : Int) : Prop := (Lit.int .i64 n).wf = true
def wfV (v : Val) : Prop := I64 v.k ∧ I64 v.n ∧ v.s.size ≤ maxLen
mutual
def wfE : Ex → Prop
  | .mk k op v n kids => I64 k ∧ I64 op ∧ wfV v ∧ n.size ≤ maxLen ∧ kids.length ≤ maxLen ∧ wfEs kids
def wfEs : List Ex → Prop
  | [] => True
  | e :: l => wfE e ∧ wfEs l
end
theorem wfEs_of : ∀ {l : List Ex}, (∀ e ∈ l, wfE e) → wfEs l
  | [], _ => trivial
  | e :: l, h => ⟨h e (List.mem_cons_self ..), wfEs_of fun x hx => h x (List.mem_cons_of_mem _ hx)⟩
theorem wfEs_all : ∀ {l : List Ex}, wfEs l → ∀ e ∈ l, wfE e
  | e :: l, h, x, hx => by
    rcases List.mem_cons.1 hx with rfl | hx
    · exact h.1
    · exact wfEs_all h.2 x hx
theorem rdV (m : Nat) : Rd Tryz.prog 23 eV wfV m :=
  (Rd.st (fun a : Int × Int × ByteArray => (⟨a.1, a.2.1, a.2.2⟩ : Val)) (by exact fun a => ⟨rfl, fun h => h⟩) Tryz.underlying23 (by kernel_rfl)
    (RdF.cons (s1 := 1) rfl (by kernel_rfl) (Rd.int Tryz.underlying3) (RdF.cons (s1 := 1) rfl (by kernel_rfl) (Rd.int Tryz.underlying3) (RdF.last (sz := 1) rfl (by kernel_rfl) (Rd.str Tryz.underlying9))))).less
theorem rdE : ∀ m, Rd Tryz.prog 26 eE wfE m
  | 0 => Rd.zero
  | m + 1 => Rd.st (fun a : Int × Int × Val × ByteArray × List Ex => Ex.mk a.1 a.2.1 a.2.2.1 a.2.2.2.1 a.2.2.2.2) (by exact fun a => ⟨by rw [eE, eEs_map]; rfl, fun h => ⟨h.1, h.2.1, h.2.2.1, h.2.2.2.1, h.2.2.2.2.1, wfEs_of h.2.2.2.2.2⟩⟩) Tryz.underlying26 (by kernel_rfl)
      (RdF.cons (s1 := 1) rfl (by kernel_rfl) (Rd.int Tryz.underlying3) (RdF.cons (s1 := 1) rfl (by kernel_rfl) (Rd.int Tryz.underlying3) (RdF.cons (s1 := 3) rfl (by kernel_rfl) (rdV m) (RdF.cons (s1 := 1) rfl (by kernel_rfl) (Rd.str Tryz.underlying9)
        (RdF.last (sz := 1) rfl (by kernel_rfl) (Rd.sl (sz := 7) (by decide) Tryz.underlying24 (by kernel_rfl) (rdE m)))))))
def wfVs (r : List Val) : Prop := r.length ≤ maxLen ∧ ∀ v ∈ r, wfV v
theorem rdVs (m : Nat) : Rd Tryz.prog 27 (fun l => [.sl 3 (l.map eV)]) wfVs m := Rd.sl (sz := 3) (by decide) Tryz.underlying27 (by kernel_rfl) (rdV m)
theorem in64_of {n : Int} (h : I64 n) : in64 n := by
  unfold I64 at h
  simp [Lit.wf, IntKind.min, IntKind.max, IntKind.bits, IntKind.signed] at h
  unfold in64
  omega
mutual
theorem inE_of : ∀ {e : Ex}, wfE e → inE e
  | .mk k op v n kids, h => ⟨in64_of h.2.2.1.2.1, inEs_of h.2.2.2.2.2⟩
theorem inEs_of : ∀ {l : List Ex}, wfEs l → inEs l
  | [], _ => trivial
  | e :: l, h => ⟨inE_of h.1, inEs_of h.2⟩
end
end Go.Proofs.YtbmgenifdlgbmaaGreat.D
namespace Go.Proofs.YtbmgenifdlgbmaaGreat.D
set_option linter.unusedVariables false
set_option linter.unusedSimpArgs false
open Go Go.Proofs.YtbmgenifdlgbmaaGreat.D.Pm
set_option maxRecDepth 4000
def fewV (l : List Val) : Bool := decide (l.length ≤ 12) && l.all (fun v => decide (v.s.size ≤ 100))
def vsC (l : List Val) : List AC := [.sl 3 (l.map eV)]
theorem few_v (ls : List (List Val)) (hl : ls.length ≤ Big) : Is Tryz.prog 4 [.c (.sl 1 (ls.map vsC))] (vB (ls.all fewV)) := by
  refine Is.of TP Tryz.func4 rfl rfl (Nat.le_of_ble_eq_true rfl) fun st => Pw.of TP [] ?_
  conv => whnf
  refine Pw.rng (τ := Unit) 3 (ls.map vsC).length (by simpa using hl) [0] (fun _ => []) (fun i _ => ∀ l ∈ ls.take i, fewV l = true) () rfl trivial (fun t h => by simp at h) fun i _ hi hx => Pw.of TP [] ?_
  conv => whnf
  refine ⟨fun h => ?_, fun h => ?_⟩ <;> conv => whnf
  · have hi' : i < ls.length := lt_map h
    have key : ∀ F : List AC → Prop, F (vsC ls[i]) → 0 ≤ (i : Int) ∧ (i : Int) < ((ls.map vsC).length : Nat) ∧ ∃ r, (ls.map vsC)[(i : Int).toNat]? = some r ∧ F r := fun F hF => ixm hi' hF
    have hnext : fewV ls[i] = true → ∀ l ∈ ls.take (i + 1), fewV l = true := fun h2 l h => by
      rw [List.take_succ_eq_append_getElem hi'] at h
      rcases List.mem_append.1 h with h | h
      · exact hx l h
      · simp at h; subst h; exact h2
    have hstop : fewV ls[i] = false → ls.all fewV = false := fun h2 => all_at hi' h2
    generalize ls[i] = l at key hnext hstop
    refine key _ ?_
    conv => whnf
    refine ⟨fun h => ?_, fun h => ?_⟩ <;> conv => whnf
    · (refine Fin.old (congrArg vB ?_) (.refl _); rw [hstop]; unfold fewV; simp at *; omega)
    · have hl12 : l.length ≤ 12 := by simp at *; omega
      refine Pw.rng (τ := Unit) 4 (l.map eV).length (by simp; unfold Big; omega) [0, 3] (fun _ => []) (fun j _ => ∀ v ∈ l.take j, v.s.size ≤ 100) () rfl trivial (fun t h => by simp at h) fun j _ hj hy => Pw.of TP [] ?_
      conv => whnf
      refine key _ ?_
      conv => whnf
      refine ⟨fun h => ?_, fun h => ?_⟩ <;> conv => whnf
      · have hj' : j < l.length := lt_map ‹_›
        refine key _ ?_
        conv => whnf
        refine ixm hj' ?_
        conv => whnf
        refine ⟨fun h => ?_, fun h => ?_⟩ <;> conv => whnf
        · (refine Fin.old (congrArg vB ?_) (.refl _); rw [hstop]; unfold fewV; rw [all_at hj' (decide_eq_false (by omega))]; simp)
        · refine ⟨by simpa using hj', rfl, ⟨rfl, rfl, trivial⟩, (), trivial, .refl _, fun v hv => ?_⟩
          rw [List.take_succ_eq_append_getElem hj'] at hv
          rcases List.mem_append.1 hv with hv | hv
          · exact hy v hv
          · simp at hv; subst hv; omega
      · have hj' := nlt_map ‹_› (by simpa using hj)
        subst hj'
        rw [List.take_length] at hy
        exact ⟨by simpa using hi', rfl, ⟨rfl, trivial⟩, (), trivial, .refl _, hnext (by unfold fewV; rw [decide_eq_true hl12, List.all_eq_true.2 (fun v hv => decide_eq_true (hy v hv))]; rfl)⟩
  · have hi' := nlt_map h (by simpa using hi)
    subst hi'
    rw [List.take_length] at hx
    (refine Fin.old (congrArg vB ?_) (.refl _); symm; exact List.all_eq_true.2 hx)
theorem fewV_of {l : List Val} (h : fewV l = true) : l.length ≤ 12 ∧ ∀ v ∈ l, v.s.size ≤ 100 := by
  unfold fewV at h
  rw [Bool.and_eq_true, List.all_eq_true] at h
  exact ⟨of_decide_eq_true h.1, fun v hv => of_decide_eq_true (h.2 v hv)⟩
end Go.Proofs.YtbmgenifdlgbmaaGreat.D
namespace Go.Proofs.YtbmgenifdlgbmaaGreat.D
set_option linter.unusedVariables false
set_option linter.unusedSimpArgs false
open Go Go.Proofs.YtbmgenifdlgbmaaGreat.D.Pm
set_option maxRecDepth 4000
theorem wrap_range (x : Int) : in64 (IntKind.i64.wrap x) ∧ ∃ q : Int, IntKind.i64.wrap x = x + q * 18446744073709551616 := by
  have h : IntKind.i64.wrap x = if (true && decide (x % 2 ^ 64 ≥ 2 ^ 63)) = true then x % 2 ^ 64 - 2 ^ 64 else x % 2 ^ 64 := rfl
  rw [h]
  split
  · rename_i h3
    simp at h3
    exact ⟨by unfold in64; omega, -(x / 18446744073709551616) - 1, by omega⟩
  · rename_i h3
    simp at h3
    exact ⟨by unfold in64; omega, -(x / 18446744073709551616), by omega⟩
section
variable {a b : Int}
theorem rplus_is (ha : in64 a) (hb : in64 b) : Is Tryz.prog 62 [vI .i64 a, vI .i64 b] (nfR (res (a + b))) := by
  have hw := wrap_range (a + b)
  refine Is.of TP Tryz.func62 rfl rfl (Nat.le_of_ble_eq_true rfl) fun st => Pw.of TP [] ?_
  conv => whnf
  repeat' (first | (refine ⟨fun h => ?_, fun h => ?_⟩ <;> conv => whnf) | fail)
  all_goals refine Fin.nf ?_ (.refl _)
  all_goals (obtain ⟨h1, q, h2⟩ := hw; unfold in64 at ha hb h1; unfold res)
  all_goals first | (rw [if_neg (by omega)]; done) | (rw [if_pos (by omega)]; simp only [Prod.mk.injEq, and_true]; omega)
theorem rminus_is (ha : in64 a) (hb : in64 b) : Is Tryz.prog 63 [vI .i64 a, vI .i64 b] (nfR (res (a - b))) := by
  have hw := wrap_range (a - b)
  refine Is.of TP Tryz.func63 rfl rfl (Nat.le_of_ble_eq_true rfl) fun st => Pw.of TP [] ?_
  conv => whnf
  repeat' (first | (refine ⟨fun h => ?_, fun h => ?_⟩ <;> conv => whnf) | fail)
  all_goals refine Fin.nf ?_ (.refl _)
  all_goals (obtain ⟨h1, q, h2⟩ := hw; unfold in64 at ha hb h1; unfold res)
  all_goals first | (rw [if_neg (by omega)]; done) | (rw [if_pos (by omega)]; simp only [Prod.mk.injEq, and_true]; omega)
theorem rback_is (ha : in64 a) : Is Tryz.prog 58 [vI .i64 a] (nfR (res (-a))) := by
  refine Is.of TP Tryz.func58 rfl rfl (Nat.le_of_ble_eq_true rfl) fun st => Pw.of TP [] ?_
  conv => whnf
  refine Is.callN (rminus_is (a := 0) (by unfold in64; omega) ha) fun x y e => ?_
  conv => whnf
  exact Fin.nf (by rw [← e, Int.zero_sub]) (.refl _)
theorem rsize_is (ha : in64 a) : Is Tryz.prog 59 [vI .i64 a] (nfR (nsize a)) := by
  refine Is.of TP Tryz.func59 rfl rfl (Nat.le_of_ble_eq_true rfl) fun st => Pw.of TP [] ?_
  conv => whnf
  refine ⟨fun h => ?_, fun h => ?_⟩ <;> conv => whnf
  · exact Fin.nf (by unfold nsize; rw [if_neg (by omega)]) (.refl _)
  · refine Is.callN (rback_is ha) fun x y e => ?_
    conv => whnf
    exact Fin.nf (by unfold nsize; rw [if_pos (by omega), e]) (.refl _)
theorem rover_is (ha : in64 a) : Is Tryz.prog 65 [vI .i64 a, vI .i64 b] (nfR (nover a b)) := by
  refine Is.of TP Tryz.func65 rfl rfl (Nat.le_of_ble_eq_true rfl) fun st => Pw.of TP [] ?_
  conv => whnf
  repeat' (first | (refine ⟨fun h => ?_, fun h => ?_⟩ <;> conv => whnf) | (with_reducible refine And.intro ?_ ?_; assumption; conv => whnf))
  all_goals refine Fin.nf ?_ (.refl _)
  · unfold nover; rw [if_pos (by assumption)]
  · unfold nover; rw [if_neg (by assumption), res_out]; subst_vars; (unfold in64; decide)
  all_goals (unfold nover; rw [if_neg (by assumption), wid (tdiv_in ha (by assumption) (by omega)), res_in (tdiv_in ha (by assumption) (by omega))])
theorem rrest_is (ha : in64 a) : Is Tryz.prog 66 [vI .i64 a, vI .i64 b] (nfR (nrest a b)) := by
  have c := rover_is (b := b) ha
  have h2 := Int.tmod_add_mul_tdiv a b
  have h3 := tmod_in (b := b) ha
  have h4 : ¬ b = 0 → ¬ (a = -9223372036854775808 ∧ b = -1) → nover a b = (Int.tdiv a b, 0) := fun x y => by unfold nover; rw [if_neg x, res_in (tdiv_in ha x y)]
  have h5 : b = 0 ∨ (a = -9223372036854775808 ∧ b = -1) → nover a b = (0, 10) := fun h => by
    unfold nover
    rcases h with h | ⟨rfl, rfl⟩
    · rw [if_pos h]
    · rfl
  have h6 : IntKind.i64.wrap (a - IntKind.i64.wrap (b * Int.tdiv a b)) = Int.tmod a b := by
    have e : b * Int.tdiv a b = a - Int.tmod a b := by omega
    rw [e]
    obtain ⟨k1, q1, k2⟩ := wrap_range (a - Int.tmod a b)
    obtain ⟨k3, q2, k4⟩ := wrap_range (a - IntKind.i64.wrap (a - Int.tmod a b))
    rw [k2] at k4 k3 ⊢
    unfold in64 at h3 k3 ha
    omega
  by_cases hz : b = 0 ∨ (a = -9223372036854775808 ∧ b = -1)
  · rw [h5 hz] at c
    have e : nrest a b = (0, 10) := by
      unfold nrest
      rcases hz with h | h
      · rw [if_pos h]
      · split <;> simp [h]
    rw [e]
    refine Is.of TP Tryz.func66 rfl rfl (Nat.le_of_ble_eq_true rfl) fun st => Pw.of TP [] ?_
    conv => whnf
    refine Is.call c ?_
    conv => whnf
    refine ⟨fun h => ?_, fun h => ?_⟩ <;> conv => whnf
    · exact Fin.nf rfl (.refl _)
    · exact absurd (by decide) h
  · have hb : ¬ b = 0 := fun h => hz (.inl h)
    rw [h4 hb (fun h => hz (.inr h))] at c
    have e : nrest a b = (Int.tmod a b, 0) := by unfold nrest; rw [if_neg hb, if_neg (fun h => hz (.inr h))]
    rw [e, ← h6]
    refine Is.of TP Tryz.func66 rfl rfl (Nat.le_of_ble_eq_true rfl) fun st => Pw.of TP [] ?_
    conv => whnf
    refine Is.call c ?_
    conv => whnf
    refine ⟨fun h => ?_, fun h => ?_⟩ <;> conv => whnf
    · exact absurd rfl h
    · exact Fin.nf rfl (.refl _)
theorem times_key (ha : in64 a) (h0 : b ≠ 0) (h' : ¬ (b = -1 ∧ a = -9223372036854775808)) :
    in64 (a * b) ↔ (IntKind.i64.wrap (Int.tdiv (IntKind.i64.wrap (a * b)) b) = a ∧ Int.tmod (IntKind.i64.wrap (a * b)) b = 0) := by
  constructor
  · intro h
    rw [wid h, Int.mul_tdiv_cancel a h0, wid ha]
    exact ⟨rfl, by rw [Int.mul_comm, Int.mul_tmod_right]⟩
  · rintro ⟨h1, h2⟩
    have hw : in64 (IntKind.i64.wrap (a * b)) := (wrap_range (a * b)).1
    have h3 := Int.tmod_add_mul_tdiv (IntKind.i64.wrap (a * b)) b
    rw [h2] at h3
    by_cases hx : IntKind.i64.wrap (a * b) = -9223372036854775808 ∧ b = -1
    · obtain ⟨hx1, rfl⟩ := hx
      rw [hx1] at h1
      have : a = -9223372036854775808 := by
        rw [← h1]
        decide +kernel
      exact absurd ⟨rfl, this⟩ h'
    · have h4 := tdiv_in hw h0 hx
      rw [wid h4] at h1
      rw [h1] at h3
      rw [Int.mul_comm]
      have : b * a = IntKind.i64.wrap (a * b) := by omega
      rw [this]
      exact hw
theorem rtimes_is (ha : in64 a) (hb : in64 b) : Is Tryz.prog 64 [vI .i64 a, vI .i64 b] (nfR (res (a * b))) := by
  have hw := wrap_range (a * b)
  refine Is.of TP Tryz.func64 rfl rfl (Nat.le_of_ble_eq_true rfl) fun st => Pw.of TP [] ?_
  conv => whnf
  repeat' (first | (refine ⟨fun h => ?_, fun h => ?_⟩ <;> conv => whnf) | (with_reducible refine And.intro ?_ ?_; assumption; conv => whnf) | fail)
  all_goals refine Fin.nf ?_ (.refl _)
  · subst_vars; rw [Int.zero_mul]; rfl
  · subst_vars; rw [Int.mul_zero]; rfl
  all_goals clear hw
  all_goals first | (subst_vars; rfl) | skip
  all_goals (have q := times_key (b := b) ha (by assumption) (by omega))
  all_goals (by_cases r : in64 (a * b) <;> first | (rw [wid r, res_in r]; done) | (rw [res_out r]; done) | (exfalso; simp_all; done))
end
end Go.Proofs.YtbmgenifdlgbmaaGreat.D
namespace Go.Proofs.YtbmgenifdlgbmaaGreat.D
set_option linter.unusedVariables false
set_option linter.unusedSimpArgs false
open Go Go.Proofs.YtbmgenifdlgbmaaGreat.D.Pm
set_option maxRecDepth 4000
def norm (t : Int) : Int := if t = 0 ∨ t = 1 then t else 2
theorem norm_is (t : Int) : Is Tryz.prog 68 [vI .i64 t] (vI .i64 (norm t)) := by
  refine Is.of TP Tryz.func68 rfl rfl (Nat.le_of_ble_eq_true rfl) fun st => Pw.of TP [] ?_
  conv => whnf
  repeat' (first | (refine ⟨fun h => ?_, fun h => ?_⟩ <;> conv => whnf) | fail)
  all_goals refine Fin.old (congrArg (vI .i64) ?_) (.refl _)
  all_goals simp [norm, *]
theorem rnot_is (t : Int) : Is Tryz.prog 56 [vI .i64 t] (vI .i64 (tnot t)) := by
  refine Is.of TP Tryz.func56 rfl rfl (Nat.le_of_ble_eq_true rfl) fun st => Pw.of TP [] ?_
  conv => whnf
  refine Is.callI (norm_is t) fun n hn => ?_
  conv => whnf
  refine ⟨fun h => ?_, fun h => ?_⟩ <;> conv => whnf
  all_goals refine Fin.old (congrArg (vI .i64) ?_) (.refl _)
  all_goals (unfold norm at hn; unfold tnot)
  · split at hn
    · omega
    · rename_i h2; rw [if_neg (by omega), if_neg (by omega)]
  · split at hn
    · rename_i h2
      rw [wid (by unfold in64; omega)]
      rcases h2 with rfl | rfl <;> rfl
    · omega
theorem rof_is (v : Val) : Is Tryz.prog 18 [.g (eV v)] (nfR (tof v)) := by
  refine Is.of TP Tryz.func18 rfl rfl (Nat.le_of_ble_eq_true rfl) fun st => Pw.of TP [] ?_
  conv => whnf
  repeat' (first | (refine ⟨fun h => ?_, fun h => ?_⟩ <;> conv => whnf) | fail)
  all_goals refine Fin.nf ?_ (.refl _)
  all_goals simp [tof, *]
theorem rtval_is (t : Int) : Is Tryz.prog 36 [vI .i64 t] (.g (eV (tval t))) := by
  refine Is.of TP Tryz.func36 rfl rfl (Nat.le_of_ble_eq_true rfl) fun st => Pw.of TP [] ?_
  conv => whnf
  intro id hid
  conv => whnf
  refine Is.callI (norm_is t) fun n hn => ?_
  conv => whnf
  refine ⟨fun h => ?_, fun h => ?_⟩ <;> conv => whnf
  all_goals repeat' (first | (apply Exists.intro; apply And.intro; (first | ((with_reducible (repeat (refine Eq.trans (upd_ne _ ?_) ?_; (first | assumption | (apply Ne.symm; assumption))))); first | exact upd_same _ _ _ | assumption) | ((repeat (refine Eq.trans (upd_ne _ ?_) ?_; (first | assumption | (apply Ne.symm; assumption)))); first | exact upd_same _ _ _ | assumption)); refine ⟨Nat.le_of_ble_eq_true rfl, ?_⟩; conv => whnf) | (apply Exists.intro; apply And.intro; (first | ((with_reducible (repeat (refine Eq.trans (upd_ne _ ?_) ?_; (first | assumption | (apply Ne.symm; assumption))))); first | exact upd_same _ _ _ | assumption) | ((repeat (refine Eq.trans (upd_ne _ ?_) ?_; (first | assumption | (apply Ne.symm; assumption)))); first | exact upd_same _ _ _ | assumption)); conv => whnf))
  all_goals refine Fin.old ?_ (by (first | (with_reducible (iterate 24 (try any_goals (first | exact Le.refl _ | assumption | apply Le.up2))); done) | (iterate 24 (try any_goals (first | exact Le.refl _ | assumption | apply Le.up2)))))
  all_goals (unfold norm at hn; unfold tval)
  · split at hn
    · omega
    · rename_i h2; rw [if_neg h2]; rfl
  · split at hn
    · rename_i h2; rw [if_pos h2]; rfl
    · omega
def hasT (l : List Int) (a : Int) : Bool := l.any fun t => decide (norm t = a)
theorem has_is (l : List Int) (hl : l.length ≤ Big) (a : Int) : Is Tryz.prog 81 [.c (.sl 1 (l.map iC)), vI .i64 a] (vB (hasT l a)) := by
  refine Is.of TP Tryz.func81 rfl rfl (Nat.le_of_ble_eq_true rfl) fun st => Pw.of TP [] ?_
  conv => whnf
  refine Pw.rng (τ := Unit) 5 (l.map iC).length (by simpa using hl) [0, 1] (fun _ => []) (fun i _ => ∀ t ∈ l.take i, ¬ norm t = a) () rfl trivial (fun t h => by simp at h) fun i _ hi hx => Pw.of TP [] ?_
  conv => whnf
  refine ⟨fun h => ?_, fun h => ?_⟩ <;> conv => whnf
  · have hi' : i < l.length := lt_map h
    have hnext : ¬ norm l[i] = a → ∀ t ∈ l.take (i + 1), ¬ norm t = a := fun h2 t ht => by
      rw [List.take_succ_eq_append_getElem hi'] at ht
      rcases List.mem_append.1 ht with ht | ht
      · exact hx t ht
      · simp at ht; subst ht; exact h2
    have hstop : norm l[i] = a → hasT l a = true := fun h2 => List.any_eq_true.2 ⟨_, List.getElem_mem hi', decide_eq_true h2⟩
    refine ixm hi' ?_
    conv => whnf
    refine Is.callI (norm_is (l[i]'hi')) fun n hn => ?_
    conv => whnf
    refine ⟨fun h => ?_, fun h => ?_⟩ <;> conv => whnf
    · (refine Fin.old (congrArg vB ?_) (.refl _); rw [hstop (by omega)])
    · exact ⟨by simpa using hi', rfl, ⟨rfl, rfl, trivial⟩, (), trivial, .refl _, hnext (by omega)⟩
  · have hi' := nlt_map h (by simpa using hi)
    subst hi'
    rw [List.take_length] at hx
    (refine Fin.old (congrArg vB ?_) (.refl _); symm; exact List.any_eq_false.2 fun t ht => by simp [hx t ht])
theorem rand_is (l : List Int) (hl : l.length ≤ Big) : Is Tryz.prog 60 [.c (.sl 1 (l.map iC))] (vI .i64 (if hasT l 0 = true then 0 else if hasT l 2 = true then 2 else 1)) := by
  refine Is.of TP Tryz.func60 rfl rfl (Nat.le_of_ble_eq_true rfl) fun st => Pw.of TP [] ?_
  conv => whnf
  refine Is.callB (has_is l hl 0) fun b hb => ?_
  cases b <;> conv => whnf
  · refine Is.callB (has_is l hl 2) fun c hc => ?_
    cases c <;> conv => whnf
    · exact Fin.old (congrArg (vI .i64) (by rw [if_neg (by rw [hb]; decide), if_neg (by rw [hc]; decide)])) (.refl _)
    · exact Fin.old (congrArg (vI .i64) (by rw [if_neg (by rw [hb]; decide), if_pos hc])) (.refl _)
  · exact Fin.old (congrArg (vI .i64) (by rw [if_pos hb])) (.refl _)
theorem ror_is (l : List Int) (hl : l.length ≤ Big) : Is Tryz.prog 61 [.c (.sl 1 (l.map iC))] (vI .i64 (if hasT l 1 = true then 1 else if hasT l 2 = true then 2 else 0)) := by
  refine Is.of TP Tryz.func61 rfl rfl (Nat.le_of_ble_eq_true rfl) fun st => Pw.of TP [] ?_
  conv => whnf
  refine Is.callB (has_is l hl 1) fun b hb => ?_
  cases b <;> conv => whnf
  · refine Is.callB (has_is l hl 2) fun c hc => ?_
    cases c <;> conv => whnf
    · exact Fin.old (congrArg (vI .i64) (by rw [if_neg (by rw [hb]; decide), if_neg (by rw [hc]; decide)])) (.refl _)
    · exact Fin.old (congrArg (vI .i64) (by rw [if_neg (by rw [hb]; decide), if_pos hc])) (.refl _)
  · exact Fin.old (congrArg (vI .i64) (by rw [if_pos hb])) (.refl _)
theorem number_is (n f : Int) : Is Tryz.prog 57 [vI .i64 n, vI .i64 f] (evR (ewhole n f)) := by
  refine Is.of TP Tryz.func57 rfl rfl (Nat.le_of_ble_eq_true rfl) fun st => Pw.of TP [] ?_
  conv => whnf
  intro id hid
  conv => whnf
  refine ⟨fun h => ?_, fun h => ?_⟩ <;> conv => whnf
  · repeat' (first | (apply Exists.intro; apply And.intro; (first | ((with_reducible (repeat (refine Eq.trans (upd_ne _ ?_) ?_; (first | assumption | (apply Ne.symm; assumption))))); first | exact upd_same _ _ _ | assumption) | ((repeat (refine Eq.trans (upd_ne _ ?_) ?_; (first | assumption | (apply Ne.symm; assumption)))); first | exact upd_same _ _ _ | assumption)); refine ⟨Nat.le_of_ble_eq_true rfl, ?_⟩; conv => whnf) | (apply Exists.intro; apply And.intro; (first | ((with_reducible (repeat (refine Eq.trans (upd_ne _ ?_) ?_; (first | assumption | (apply Ne.symm; assumption))))); first | exact upd_same _ _ _ | assumption) | ((repeat (refine Eq.trans (upd_ne _ ?_) ?_; (first | assumption | (apply Ne.symm; assumption)))); first | exact upd_same _ _ _ | assumption)); conv => whnf))
    exact Fin.ev (v := zV) rfl (by unfold ewhole; rw [if_pos h]) (by (first | (with_reducible (iterate 24 (try any_goals (first | exact Le.refl _ | assumption | apply Le.up2))); done) | (iterate 24 (try any_goals (first | exact Le.refl _ | assumption | apply Le.up2)))))
  · repeat' (first | (apply Exists.intro; apply And.intro; (first | ((with_reducible (repeat (refine Eq.trans (upd_ne _ ?_) ?_; (first | assumption | (apply Ne.symm; assumption))))); first | exact upd_same _ _ _ | assumption) | ((repeat (refine Eq.trans (upd_ne _ ?_) ?_; (first | assumption | (apply Ne.symm; assumption)))); first | exact upd_same _ _ _ | assumption)); refine ⟨Nat.le_of_ble_eq_true rfl, ?_⟩; conv => whnf) | (apply Exists.intro; apply And.intro; (first | ((with_reducible (repeat (refine Eq.trans (upd_ne _ ?_) ?_; (first | assumption | (apply Ne.symm; assumption))))); first | exact upd_same _ _ _ | assumption) | ((repeat (refine Eq.trans (upd_ne _ ?_) ?_; (first | assumption | (apply Ne.symm; assumption)))); first | exact upd_same _ _ _ | assumption)); conv => whnf))
    exact Fin.ev (v := ⟨1, n, ⟨#[]⟩⟩) rfl (by unfold ewhole; rw [if_neg h]) (by (first | (with_reducible (iterate 24 (try any_goals (first | exact Le.refl _ | assumption | apply Le.up2))); done) | (iterate 24 (try any_goals (first | exact Le.refl _ | assumption | apply Le.up2)))))
end Go.Proofs.YtbmgenifdlgbmaaGreat.D
namespace Go.Proofs.YtbmgenifdlgbmaaGreat.D
set_option linter.unusedVariables false
set_option linter.unusedSimpArgs false
open Go Go.Proofs.YtbmgenifdlgbmaaGreat.D.Pm
set_option maxRecDepth 4000
theorem bl_turn : ∀ s t : List UInt8, Op.bytesLess t s = !(Op.bytesLess s t || decide (s = t))
  | [], [] => by simp [Op.bytesLess]
  | [], b :: t => by simp [Op.bytesLess]
  | a :: s, [] => by simp [Op.bytesLess]
  | a :: s, b :: t => by
    have ih := bl_turn s t
    simp only [Op.bytesLess]
    by_cases h : a = b
    · subst h
      rw [ih]
      simp
    · have h2 : ¬ b = a := fun e => h e.symm
      have h3 : ¬ a.toNat = b.toNat := fun e => h (UInt8.toNat_inj.1 e)
      have e1 : (a == b) = false := by simpa using h
      have e2 : (b == a) = false := by simpa using h2
      rw [e1, e2]
      simp only [Bool.false_and, Bool.or_false, List.cons.injEq, h, false_and, decide_false]
      rw [Bool.eq_iff_iff]
      simp [UInt8.lt_iff_toNat_lt]
      omega
theorem bl_ba (a b : ByteArray) : Op.bytesLess b.toList a.toList = !(Op.bytesLess a.toList b.toList || decide (a = b)) := by
  rw [bl_turn]
  have := bytes_beq a b
  have e : decide (a.toList = b.toList) = decide (a = b) := by rw [← this, Bool.eq_iff_iff]; simp
  rw [e]
def vless (a b : Val) : Bool := if ¬ a.k = b.k then decide (a.k < b.k) else if ¬ a.n = b.n then decide (a.n < b.n) else Op.bytesLess a.s.toList b.s.toList
theorem vorder_cases (a b : Val) : vorder a b = if ¬ a.k = b.k then (if a.k < b.k then -1 else 1) else if ¬ a.n = b.n then (if a.n < b.n then -1 else 1) else cmpS a.s b.s := by
  unfold vorder firstN
  have hI : ∀ x y : Int, (cmpI x y = 0 ↔ x = y) ∧ (¬ x = y → cmpI x y = if x < y then -1 else 1) := fun x y => by
    unfold cmpI
    constructor
    · repeat' split
      all_goals omega
    · intro h
      repeat' split
      all_goals omega
  by_cases h1 : a.k = b.k
  · rw [if_neg (by simpa using h1)]
    have e1 := (hI a.k b.k).1.2 h1
    by_cases h2 : a.n = b.n
    · rw [if_neg (by simpa using h2)]
      have e2 := (hI a.n b.n).1.2 h2
      rw [e1, e2]
      by_cases h3 : cmpS a.s b.s = 0
      · simp [List.find?, h3]
      · simp [List.find?, h3]
    · rw [if_pos h2]
      have e2 : ¬ cmpI a.n b.n = 0 := fun e => h2 ((hI a.n b.n).1.1 e)
      rw [e1, ← (hI a.n b.n).2 h2]
      simp [List.find?, e2]
  · rw [if_pos h1]
    have e1 : ¬ cmpI a.k b.k = 0 := fun e => h1 ((hI a.k b.k).1.1 e)
    rw [← (hI a.k b.k).2 h1]
    simp [List.find?, e1]
theorem cmpS_lt (a b : ByteArray) : (cmpS a b < 0 ↔ Op.bytesLess a.toList b.toList = true) ∧ (0 < cmpS a b ↔ Op.bytesLess b.toList a.toList = true) ∧ (cmpS a b = 0 ↔ a = b) := by
  have h := bl_ba a b
  have h' := bl_ba b a
  unfold cmpS
  rw [← h]
  cases e1 : Op.bytesLess a.toList b.toList <;> cases e2 : Op.bytesLess b.toList a.toList <;> rw [e1, e2] at h h'
  · have : a = b := by simpa using h
    simp [this]
  · have : ¬ a = b := by simpa using h
    simp [this]
  · have : ¬ a = b := fun e => by subst e; rw [e1] at e2; cases e2
    simp [this]
  · simp at h
theorem vorder_ok (a b : Val) : (vorder a b < 0 ↔ vless a b = true) ∧ (0 < vorder a b ↔ vless b a = true) ∧ (vorder a b = 0 ↔ (a.k = b.k ∧ a.n = b.n ∧ a.s = b.s)) := by
  rw [vorder_cases]
  unfold vless
  obtain ⟨h1, h2, h3⟩ := cmpS_lt a.s b.s
  by_cases k : a.k = b.k
  · by_cases n : a.n = b.n
    · simp only [k, n, not_true_eq_false, if_false]
      exact ⟨h1, h2, by rw [h3]; simp⟩
    · have n' : ¬ b.n = a.n := fun e => n e.symm
      simp only [k, n, n', not_true_eq_false, not_false_eq_true, if_false, if_true]
      refine ⟨?_, ?_, ?_⟩ <;> split <;> simp <;> omega
  · have k' : ¬ b.k = a.k := fun e => k e.symm
    simp only [k, k', not_true_eq_false, not_false_eq_true, if_false, if_true]
    refine ⟨?_, ?_, ?_⟩ <;> split <;> simp <;> omega
end Go.Proofs.YtbmgenifdlgbmaaGreat.D
namespace Go.Proofs.YtbmgenifdlgbmaaGreat.D
set_option linter.unusedVariables false
set_option linter.unusedSimpArgs false
open Go Go.Proofs.YtbmgenifdlgbmaaGreat.D.Pm
set_option maxRecDepth 4000
theorem rless_is (a b : Val) : Is Tryz.prog 67 [.g (eV a), .g (eV b)] (vB (vless a b)) := by
  refine Is.of TP Tryz.func67 rfl rfl (Nat.le_of_ble_eq_true rfl) fun st => Pw.of TP [] ?_
  conv => whnf
  repeat' (first | (refine ⟨fun h => ?_, fun h => ?_⟩ <;> conv => whnf) | fail)
  all_goals refine Fin.old (congrArg vB ?_) (.refl _)
  all_goals (unfold vless; simp only [*, not_true_eq_false, not_false_eq_true, if_false, if_true])
  all_goals first | rfl | (simp_all; done) | (simp; omega)
theorem rcompare_is (op : Int) (a b : Val) : Is Tryz.prog 35 [vI .i64 op, .g (eV a), .g (eV b)] (nfR (vcompare op a b)) := by
  have hab := vorder_ok a b
  refine Is.of TP Tryz.func35 rfl rfl (Nat.le_of_ble_eq_true rfl) fun st => Pw.of TP [] ?_
  conv => whnf
  repeat' (first | (refine ⟨fun h => ?_, fun h => ?_⟩ <;> conv => whnf) | (refine Is.callB (rless_is _ _) fun r hr => ?_; cases r <;> conv => whnf) | fail)
  all_goals refine Fin.nf ?_ (.refl _)
  all_goals (unfold vcompare vknown; repeat' split)
  all_goals first | rfl | (exfalso; simp_all; done) | (exfalso; simp_all; omega) | skip
  all_goals obtain ⟨o1, o2, o3⟩ := hab
  all_goals first | (exfalso; simp at *; omega) | (exfalso; unfold opIs at *; simp_all; done) | (exfalso; unfold opIs at *; simp_all; omega) | grind [opIs]
end Go.Proofs.YtbmgenifdlgbmaaGreat.D
namespace Go.Proofs.YtbmgenifdlgbmaaGreat.D
set_option linter.unusedVariables false
set_option linter.unusedSimpArgs false
open Go Go.Proofs.YtbmgenifdlgbmaaGreat.D.Pm
set_option maxRecDepth 4000
theorem vtakes_eq (op : Int) : vtakes op = if op < 9 ∨ 14 < op then 0 else if op = 14 then 3 else 1 := by
  unfold vtakes
  repeat' split
  all_goals omega
theorem vm_bad {op : Int} {a b : Val} (h : (op < 9 ∨ 14 < op) ∨ (op = 14 ∧ ((a.k ≠ 3 ∧ a.k ≠ 0) ∨ (b.k ≠ 3 ∧ b.k ≠ 0))) ∨ (op ≠ 14 ∧ ((a.k ≠ 1 ∧ a.k ≠ 0) ∨ (b.k ≠ 1 ∧ b.k ≠ 0)))) : (zV, (11 : Int)) = vmath op a b := by
  unfold vmath
  rw [if_pos]
  rw [vtakes_eq]
  repeat' split
  all_goals omega
theorem vm_tk {op : Int} {a b : Val} (h : ¬((op < 9 ∨ 14 < op) ∨ (op = 14 ∧ ((a.k ≠ 3 ∧ a.k ≠ 0) ∨ (b.k ≠ 3 ∧ b.k ≠ 0))) ∨ (op ≠ 14 ∧ ((a.k ≠ 1 ∧ a.k ≠ 0) ∨ (b.k ≠ 1 ∧ b.k ≠ 0))))) : ¬(vtakes op = 0 ∨ (a.k ≠ vtakes op ∧ a.k ≠ 0) ∨ (b.k ≠ vtakes op ∧ b.k ≠ 0)) := by
  rw [vtakes_eq]
  repeat' split
  all_goals omega
theorem vm_zero {op : Int} {a b : Val} (h : ¬((op < 9 ∨ 14 < op) ∨ (op = 14 ∧ ((a.k ≠ 3 ∧ a.k ≠ 0) ∨ (b.k ≠ 3 ∧ b.k ≠ 0))) ∨ (op ≠ 14 ∧ ((a.k ≠ 1 ∧ a.k ≠ 0) ∨ (b.k ≠ 1 ∧ b.k ≠ 0))))) (hk : a.k = 0 ∨ b.k = 0) : (zV, (0 : Int)) = vmath op a b := by
  unfold vmath
  rw [if_neg (vm_tk h), if_pos hk]
theorem vm_big {op : Int} {a b : Val} (h : op = 14 ∧ a.k = 3 ∧ b.k = 3) (hs : 32 < a.s.size ∨ 32 < a.s.size + b.s.size) : (zV, (3 : Int)) = vmath op a b := by
  unfold vmath
  have h3 : vtakes op = 3 := by rw [h.1]; rfl
  rw [if_neg (vm_tk (by omega)), if_neg (by omega), if_pos h3, if_pos hs]
theorem vm_app {op : Int} {a b : Val} (h : op = 14 ∧ a.k = 3 ∧ b.k = 3) (hs : ¬(32 < a.s.size ∨ 32 < a.s.size + b.s.size)) : ((⟨3, 0, a.s ++ b.s⟩ : Val), (0 : Int)) = vmath op a b := by
  unfold vmath
  have h3 : vtakes op = 3 := by rw [h.1]; rfl
  rw [if_neg (vm_tk (by omega)), if_neg (by omega), if_pos h3, if_neg hs]
theorem vm_int {op : Int} {a b : Val} {x y : Int} (h : 9 ≤ op ∧ op < 14 ∧ a.k = 1 ∧ b.k = 1) (e : vints op a.n b.n = (x, y)) (hy : y ≠ 0) : (zV, y) = vmath op a b := by
  unfold vmath
  have h3 : ¬vtakes op = 3 := by rw [vtakes_eq]; repeat' split; all_goals omega
  rw [if_neg (vm_tk (by omega)), if_neg (by omega), if_neg h3, e, if_pos hy]
theorem vm_intk {op : Int} {a b : Val} {x y : Int} (h : 9 ≤ op ∧ op < 14 ∧ a.k = 1 ∧ b.k = 1) (e : vints op a.n b.n = (x, y)) (hy : y = 0) : ((⟨1, x, ⟨#[]⟩⟩ : Val), (0 : Int)) = vmath op a b := by
  unfold vmath
  have h3 : ¬vtakes op = 3 := by rw [vtakes_eq]; repeat' split; all_goals omega
  rw [if_neg (vm_tk (by omega)), if_neg (by omega), if_neg h3, e, if_neg (by simpa using hy)]
set_option maxHeartbeats 1000000 in
theorem rmath_is (op : Int) (a b : Val) (ha : in64 a.n) (hb : in64 b.n) (ha2 : a.s.size ≤ Big) (hb2 : b.s.size ≤ Big) : Is Tryz.prog 34 [vI .i64 op, .g (eV a), .g (eV b)] (evR (vmath op a b)) := by
  have hA : a.s.size ≤ 4611686018427387903 := ha2
  have hB : b.s.size ≤ 4611686018427387903 := hb2
  have hw : IntKind.i64.wrap ((a.s.size : Int) + (b.s.size : Int)) = (a.s.size : Int) + (b.s.size : Int) := wid (by unfold in64; omega)
  have hT := vtakes_eq op
  refine Is.of TP Tryz.func34 rfl rfl (Nat.le_of_ble_eq_true rfl) fun st => Pw.of TP [] ?_
  conv => whnf
  intro id hid
  conv => whnf
  repeat' (first | (refine ⟨fun h => ?_, fun h => ?_⟩ <;> conv => whnf) | (apply Exists.intro; apply And.intro; (first | ((with_reducible (repeat (refine Eq.trans (upd_ne _ ?_) ?_; (first | assumption | (apply Ne.symm; assumption))))); first | exact upd_same _ _ _ | assumption) | ((repeat (refine Eq.trans (upd_ne _ ?_) ?_; (first | assumption | (apply Ne.symm; assumption)))); first | exact upd_same _ _ _ | assumption)); refine ⟨Nat.le_of_ble_eq_true rfl, ?_⟩; conv => whnf) | (apply Exists.intro; apply And.intro; (first | ((with_reducible (repeat (refine Eq.trans (upd_ne _ ?_) ?_; (first | assumption | (apply Ne.symm; assumption))))); first | exact upd_same _ _ _ | assumption) | ((repeat (refine Eq.trans (upd_ne _ ?_) ?_; (first | assumption | (apply Ne.symm; assumption)))); first | exact upd_same _ _ _ | assumption)); conv => whnf) | (with_reducible refine And.intro ?_ ?_; omega; conv => whnf) | (refine Is.callN (rplus_is ha hb) fun x y e => ?_; conv => whnf) | (refine Is.callN (rminus_is ha hb) fun x y e => ?_; conv => whnf) | (refine Is.callN (rtimes_is ha hb) fun x y e => ?_; conv => whnf) | (refine Is.callN (rover_is ha) fun x y e => ?_; conv => whnf) | (refine Is.callN (rrest_is ha) fun x y e => ?_; conv => whnf) | fail)
  all_goals first | refine Fin.ev (v := zV) rfl ?_ (by (first | (with_reducible (iterate 24 (try any_goals (first | exact Le.refl _ | assumption | apply Le.up2))); done) | (iterate 24 (try any_goals (first | exact Le.refl _ | assumption | apply Le.up2))))) | refine Fin.ev (v := ⟨3, 0, a.s ++ b.s⟩) rfl ?_ (by (first | (with_reducible (iterate 24 (try any_goals (first | exact Le.refl _ | assumption | apply Le.up2))); done) | (iterate 24 (try any_goals (first | exact Le.refl _ | assumption | apply Le.up2))))) | refine Fin.ev (v := ⟨1, x, ⟨#[]⟩⟩) rfl ?_ (by (first | (with_reducible (iterate 24 (try any_goals (first | exact Le.refl _ | assumption | apply Le.up2))); done) | (iterate 24 (try any_goals (first | exact Le.refl _ | assumption | apply Le.up2))))) | (exfalso; omega) | trace_state
  all_goals clear hid hT
  all_goals first | (exfalso; omega) | exact vm_bad (by omega) | exact vm_zero (by omega) (by omega) | exact vm_big (by omega) (by omega) | exact vm_app (by omega) (by omega) | refine vm_int (x := x) (by omega) ?_ (by omega) | refine vm_intk (x := x) (y := y) (by omega) ?_ (by omega) | skip
  all_goals first | (unfold vints; repeat' split) | skip
  all_goals first | exact e | exact e.symm | (exfalso; omega) | skip
  all_goals trace_state
end Go.Proofs.YtbmgenifdlgbmaaGreat.D
namespace Go.Proofs.YtbmgenifdlgbmaaGreat.D
set_option linter.unusedVariables false
set_option linter.unusedSimpArgs false
open Go Go.Proofs.YtbmgenifdlgbmaaGreat.D.Pm
set_option maxRecDepth 4000
theorem rone_is (k op : Int) (v : Val) (nm : ByteArray) (kids : List Ex) (a : Val) (ha : in64 a.n) : Is Tryz.prog 30 [.g (eE (.mk k op v nm kids)), .g (eV a)] (evR (eun op (a, 0))) := by
  refine Is.of TP Tryz.func30 rfl rfl (Nat.le_of_ble_eq_true rfl) fun st => Pw.of TP [] ?_
  conv => whnf
  intro id hid
  conv => whnf
  repeat' (first | (refine ⟨fun h => ?_, fun h => ?_⟩ <;> conv => whnf) | (apply Exists.intro; apply And.intro; (first | ((with_reducible (repeat (refine Eq.trans (upd_ne _ ?_) ?_; (first | assumption | (apply Ne.symm; assumption))))); first | exact upd_same _ _ _ | assumption) | ((repeat (refine Eq.trans (upd_ne _ ?_) ?_; (first | assumption | (apply Ne.symm; assumption)))); first | exact upd_same _ _ _ | assumption)); refine ⟨Nat.le_of_ble_eq_true rfl, ?_⟩; conv => whnf) | (apply Exists.intro; apply And.intro; (first | ((with_reducible (repeat (refine Eq.trans (upd_ne _ ?_) ?_; (first | assumption | (apply Ne.symm; assumption))))); first | exact upd_same _ _ _ | assumption) | ((repeat (refine Eq.trans (upd_ne _ ?_) ?_; (first | assumption | (apply Ne.symm; assumption)))); first | exact upd_same _ _ _ | assumption)); conv => whnf) | (refine Is.callN (rof_is _) fun x y e => ?_; conv => whnf) | (refine (rnot_is _).call ?_; conv => whnf) | (refine (rtval_is _).call ?_; conv => whnf) | (refine Is.callN (rback_is ha) fun x y e => ?_; conv => whnf) | (refine Is.callV (number_is _ _) fun y m hym => ?_; conv => whnf) | fail)
  all_goals first | refine Fin.ev (v := zV) rfl ?_ (by (first | (with_reducible (iterate 24 (try any_goals (first | exact Le.refl _ | assumption | apply Le.up2))); done) | (iterate 24 (try any_goals (first | exact Le.refl _ | assumption | apply Le.up2))))) | refine Fin.ev (v := tval 0) rfl ?_ (by (first | (with_reducible (iterate 24 (try any_goals (first | exact Le.refl _ | assumption | apply Le.up2))); done) | (iterate 24 (try any_goals (first | exact Le.refl _ | assumption | apply Le.up2))))) | refine Fin.ev (v := tval 1) rfl ?_ (by (first | (with_reducible (iterate 24 (try any_goals (first | exact Le.refl _ | assumption | apply Le.up2))); done) | (iterate 24 (try any_goals (first | exact Le.refl _ | assumption | apply Le.up2))))) | refine Fin.ev (v := tval (tnot x)) rfl ?_ (by (first | (with_reducible (iterate 24 (try any_goals (first | exact Le.refl _ | assumption | apply Le.up2))); done) | (iterate 24 (try any_goals (first | exact Le.refl _ | assumption | apply Le.up2))))) | refine Fin.ev (v := y) rfl ?_ (by (first | (with_reducible (iterate 24 (try any_goals (first | exact Le.refl _ | assumption | apply Le.up2))); done) | (iterate 24 (try any_goals (first | exact Le.refl _ | assumption | apply Le.up2))))) | skip
  all_goals clear hid
  all_goals (unfold eun; dsimp only; repeat' split)
  all_goals first | rfl | (exfalso; omega) | (exfalso; simp_all; done) | (exfalso; simp_all; omega) | (simp_all [eknown]; done) | (simp_all [eknown]; omega) | trace_state
theorem rcall_is (nm : ByteArray) (a : Val) (ha : in64 a.n) (hs : a.s.size ≤ Big) : Is Tryz.prog 32 [vS nm, .g (eV a)] (evR (if a.k = 0 then (zV, 0) else if nm = lengthS ∧ a.k = 3 then ewhole a.s.size 0 else if nm = absS ∧ a.k = 1 then ewhole (nsize a.n).1 (nsize a.n).2 else (zV, 11))) := by
  refine Is.of TP Tryz.func32 rfl rfl (Nat.le_of_ble_eq_true rfl) fun st => Pw.of TP [] ?_
  conv => whnf
  intro id hid
  conv => whnf
  repeat' (first | (refine ⟨fun h => ?_, fun h => ?_⟩ <;> conv => whnf) | (apply Exists.intro; apply And.intro; (first | ((with_reducible (repeat (refine Eq.trans (upd_ne _ ?_) ?_; (first | assumption | (apply Ne.symm; assumption))))); first | exact upd_same _ _ _ | assumption) | ((repeat (refine Eq.trans (upd_ne _ ?_) ?_; (first | assumption | (apply Ne.symm; assumption)))); first | exact upd_same _ _ _ | assumption)); refine ⟨Nat.le_of_ble_eq_true rfl, ?_⟩; conv => whnf) | (apply Exists.intro; apply And.intro; (first | ((with_reducible (repeat (refine Eq.trans (upd_ne _ ?_) ?_; (first | assumption | (apply Ne.symm; assumption))))); first | exact upd_same _ _ _ | assumption) | ((repeat (refine Eq.trans (upd_ne _ ?_) ?_; (first | assumption | (apply Ne.symm; assumption)))); first | exact upd_same _ _ _ | assumption)); conv => whnf) | (refine Is.callN (rsize_is ha) fun x y e => ?_; conv => whnf) | (refine Is.callV (number_is _ _) fun y m hym => ?_; conv => whnf) | fail)
  all_goals first | refine Fin.ev (v := zV) rfl ?_ (by (first | (with_reducible (iterate 24 (try any_goals (first | exact Le.refl _ | assumption | apply Le.up2))); done) | (iterate 24 (try any_goals (first | exact Le.refl _ | assumption | apply Le.up2))))) | refine Fin.ev (v := ⟨1, a.s.size, ⟨#[]⟩⟩) rfl ?_ (by (first | (with_reducible (iterate 24 (try any_goals (first | exact Le.refl _ | assumption | apply Le.up2))); done) | (iterate 24 (try any_goals (first | exact Le.refl _ | assumption | apply Le.up2))))) | refine Fin.ev (v := y) rfl ?_ (by (first | (with_reducible (iterate 24 (try any_goals (first | exact Le.refl _ | assumption | apply Le.up2))); done) | (iterate 24 (try any_goals (first | exact Le.refl _ | assumption | apply Le.up2))))) | skip
  all_goals clear hid
  all_goals (repeat' split)
  all_goals first | rfl | (exfalso; omega) | (exfalso; simp_all [lengthS, absS]; done) | (exfalso; simp_all [lengthS, absS]; omega) | (simp_all [ewhole, lengthS, absS]; done) | (simp_all [lengthS, absS]; omega) | trace_state
end Go.Proofs.YtbmgenifdlgbmaaGreat.D
namespace Go.Proofs.YtbmgenifdlgbmaaGreat.D
set_option linter.unusedVariables false
set_option linter.unusedSimpArgs false
open Go Go.Proofs.YtbmgenifdlgbmaaGreat.D.Pm
set_option maxRecDepth 4000
/-- In, as the document's loop says it -/
def rinL (x : Val) : Int → List (Val × Int) → Val × Int
  | out, [] => (tval out, 0)
  | out, p :: r => if p.2 ≠ 0 then (zV, p.2) else if (vcompare 3 x p.1).2 ≠ 0 then (zV, (vcompare 3 x p.1).2) else if (vcompare 3 x p.1).1 = 1 then (tval 1, 0) else rinL x (if (vcompare 3 x p.1).1 = 2 then 2 else out) r
theorem tcome11 (o : Int) : tcome 1 [o, 1] = 1 := by simp [tcome]
theorem tcome12 {o : Int} (h : o ≠ 1) : tcome 1 [o, 2] = 2 := by simp [tcome, tnot, h]
theorem tcome10 {o : Int} (h : o = 0 ∨ o = 2) : tcome 1 [o, 0] = o := by rcases h with rfl | rfl <;> decide
theorem vcompare3 (op : Int) (a b : Val) : (vcompare op a b).1 = 0 ∨ (vcompare op a b).1 = 1 ∨ (vcompare op a b).1 = 2 := by
  unfold vcompare
  repeat' split
  all_goals simp
theorem einL_rin {x : Val} : ∀ (l : List (Val × Int)) (o : Int), o = 0 ∨ o = 2 → einL x o l = rinL x o l
  | [], o, h => rfl
  | p :: l, o, h => by
    rw [einL_cons, rinL]
    by_cases h1 : p.2 ≠ 0
    · rw [if_pos h1, if_pos h1]
    rw [if_neg h1, if_neg h1]
    by_cases h2 : (vcompare 3 x p.1).2 ≠ 0
    · rw [if_pos h2, if_pos h2]
    rw [if_neg h2, if_neg h2]
    rcases vcompare3 3 x p.1 with h3 | h3 | h3
    · rw [h3, if_neg (by decide), if_neg (by decide), if_neg (by decide), tcome10 h]
      exact einL_rin l o h
    · rw [h3, if_pos rfl, if_pos rfl, tcome11]
    · rw [h3, if_neg (by decide), if_neg (by decide), if_pos rfl, tcome12 (by omega)]
      exact einL_rin l 2 (.inr rfl)
def zr (p : Val × Int) : Prop := p.2 ≠ 0 → p.1 = zV
theorem zr_known (t f : Int) : zr (eknown t f) := by unfold eknown zr; split <;> simp_all
theorem zr_whole (t f : Int) : zr (ewhole t f) := by unfold ewhole zr; split <;> simp_all
theorem zr_math (op : Int) (a b : Val) : zr (vmath op a b) := by
  unfold vmath
  repeat' split
  all_goals (intro h; first | rfl | exact absurd rfl h)
theorem zr_one (l : List Val) (n : Int) : zr (eone l n) := by unfold eone zr; repeat' split; all_goals simp_all
theorem zr_un (op : Int) (p : Val × Int) : zr (eun op p) := by
  unfold eun
  repeat' split
  all_goals first | exact zr_known _ _ | exact zr_whole _ _ | (intro h; first | rfl | exact absurd rfl h)
theorem zr_bin (op : Int) (p q : Val × Int) : zr (ebin op p q) := by
  unfold ebin
  repeat' split
  all_goals first | exact zr_known _ _ | exact zr_math _ _ _ | (intro h; first | rfl | exact absurd rfl h)
theorem zr_both {e : Int} : ∀ (l : List (Val × Int)) (o : Int), zr (ebothL e o l)
  | [], o => fun h => absurd rfl h
  | p :: l, o => by
    rw [ebothL_cons]
    repeat' split
    all_goals first | exact zr_both l _ | (intro h; first | rfl | exact absurd rfl h)
theorem zr_inL {x : Val} : ∀ (l : List (Val × Int)) (o : Int), zr (einL x o l)
  | [], o => fun h => absurd rfl h
  | p :: l, o => by
    rw [einL_cons]
    repeat' split
    all_goals first | exact zr_inL l _ | (intro h; first | rfl | exact absurd rfl h)
theorem zr_in (l : List (Val × Int)) : zr (ein l) := by
  cases l with
  | nil => exact fun h => absurd rfl h
  | cons p l =>
    unfold ein
    dsimp only
    split
    · exact fun _ => rfl
    · exact zr_inL _ _
theorem zr_coal : ∀ {l : List (Val × Int)}, (∀ p ∈ l, zr p) → zr (ecoal l)
  | [], h => fun h => absurd rfl h
  | p :: l, h => by
    unfold ecoal
    split
    · exact h p (List.mem_cons_self ..)
    · exact zr_coal fun q hq => h q (List.mem_cons_of_mem _ hq)
theorem zr_call {nm : ByteArray} {l : List (Val × Int)} (h : ∀ p ∈ l, zr p) : zr (ecall nm l) := by
  unfold ecall
  split
  · exact zr_coal h
  · cases l with
    | nil => exact fun h => absurd rfl h
    | cons p l =>
      dsimp only
      repeat' split
      all_goals first | exact zr_whole _ _ | (intro h; first | rfl | exact absurd rfl h)
theorem zr_eval {row ps : List Val} : ∀ e, zr (evalE row ps e) := by
  refine Ex.ind fun k op v nm kids ih => ?_
  rw [evalE, evalEs_map]
  have hk : ∀ p ∈ kids.map (evalE row ps), zr p := fun p hp => by
    obtain ⟨e, he, rfl⟩ := List.mem_map.1 hp
    exact ih e he
  repeat' split
  all_goals first | exact zr_one _ _ | exact zr_un _ _ | exact zr_both _ _ | exact zr_bin _ _ _ | exact zr_in _ | exact zr_call hk | (intro h; first | rfl | exact absurd rfl h)
end Go.Proofs.YtbmgenifdlgbmaaGreat.D
namespace Go.Proofs.YtbmgenifdlgbmaaGreat.D
set_option linter.unusedVariables false
set_option linter.unusedSimpArgs false
open Go Go.Proofs.YtbmgenifdlgbmaaGreat.D.Pm
set_option maxRecDepth 4000
theorem eEs_len2 : ∀ (l : List Ex), (eEs l).length = l.length
  | [] => rfl
  | a :: l => by simp [eEs, eEs_len2 l]
theorem eEs_at {kid : Ex} : ∀ (kids : List Ex) (j : Nat) (h : j < kids.length), (eEs (kid :: kids))[j + 1]? = some (eE kids[j])
  | a :: l, 0, h => by simp [eEs]
  | a :: l, j + 1, h => by
    have h' : j < l.length := by simpa using h
    have := eEs_at (kid := a) l j h'
    simpa [eEs] using this
theorem rin_is {row ps : List Val} (k op : Int) (v : Val) (nm : ByteArray) (kid : Ex) (kids : List Ex) (F : Ex → Val × Int) (hl : (kid :: kids).length ≤ Big) (x : Val) (hk : ∀ e ∈ kids, Is Tryz.prog 16 [.g (eE e), .c (.sl 3 (row.map eV)), .c (.sl 3 (ps.map eV))] (evR (F e))) :
    Is Tryz.prog 31 [.g (eE (.mk k op v nm (kid :: kids))), .g (eV x), .c (.sl 3 (row.map eV)), .c (.sl 3 (ps.map eV))] (evR (if x.k = 0 then (zV, 0) else rinL x 0 (kids.map F))) := by
  refine Is.of TP Tryz.func31 rfl rfl (Nat.le_of_ble_eq_true rfl) fun st => Pw.of TP [1000005, 1000004] ?_
  conv => whnf
  intro id4 h4
  conv => whnf
  intro id5 h5
  conv => whnf
  intro id8 h8
  conv => whnf
  have n45 : id4 ≠ id5 := fresh_ne h5 (upd_same _ _ _)
  have n48 : id4 ≠ id8 := fresh_ne h8 (by (first | ((with_reducible (repeat (refine Eq.trans (upd_ne _ ?_) ?_; (first | assumption | (apply Ne.symm; assumption))))); first | exact upd_same _ _ _ | assumption) | ((repeat (refine Eq.trans (upd_ne _ ?_) ?_; (first | assumption | (apply Ne.symm; assumption)))); first | exact upd_same _ _ _ | assumption)))
  have n58 : id5 ≠ id8 := fresh_ne h8 (by (first | ((with_reducible (repeat (refine Eq.trans (upd_ne _ ?_) ?_; (first | assumption | (apply Ne.symm; assumption))))); first | exact upd_same _ _ _ | assumption) | ((repeat (refine Eq.trans (upd_ne _ ?_) ?_; (first | assumption | (apply Ne.symm; assumption)))); first | exact upd_same _ _ _ | assumption)))
  have h5' := (Le.upd h4).none h5
  have h8' : st id8 = none := Le.none (by (first | (with_reducible (iterate 24 (try any_goals (first | exact Le.refl _ | assumption | apply Le.up2))); done) | (iterate 24 (try any_goals (first | exact Le.refl _ | assumption | apply Le.up2))))) h8
  clear h5 h8
  repeat' (first | (refine ⟨fun h => ?_, fun h => ?_⟩ <;> conv => whnf) | (apply Exists.intro; apply And.intro; (first | ((with_reducible (repeat (refine Eq.trans (upd_ne _ ?_) ?_; (first | assumption | (apply Ne.symm; assumption))))); first | exact upd_same _ _ _ | assumption) | ((repeat (refine Eq.trans (upd_ne _ ?_) ?_; (first | assumption | (apply Ne.symm; assumption)))); first | exact upd_same _ _ _ | assumption)); refine ⟨Nat.le_of_ble_eq_true rfl, ?_⟩; conv => whnf) | (apply Exists.intro; apply And.intro; (first | ((with_reducible (repeat (refine Eq.trans (upd_ne _ ?_) ?_; (first | assumption | (apply Ne.symm; assumption))))); first | exact upd_same _ _ _ | assumption) | ((repeat (refine Eq.trans (upd_ne _ ?_) ?_; (first | assumption | (apply Ne.symm; assumption)))); first | exact upd_same _ _ _ | assumption)); conv => whnf))
  · refine Fin.ev (v := zV) rfl ?_ (by (first | (with_reducible (iterate 24 (try any_goals (first | exact Le.refl _ | assumption | apply Le.up2))); done) | (iterate 24 (try any_goals (first | exact Le.refl _ | assumption | apply Le.up2)))))
    rw [if_pos (by assumption)]
  have hx0 := h
  rw [if_neg hx0]
  refine Pw.gen fun S hS => ?_
  have a4 : S id4 = some (.bx (avc (AV.g (eE (Ex.mk k op v nm (kid :: kids)))))) := by rw [hS]; (first | ((with_reducible (repeat (refine Eq.trans (upd_ne _ ?_) ?_; (first | assumption | (apply Ne.symm; assumption))))); first | exact upd_same _ _ _ | assumption) | ((repeat (refine Eq.trans (upd_ne _ ?_) ?_; (first | assumption | (apply Ne.symm; assumption)))); first | exact upd_same _ _ _ | assumption))
  have a5 : S id5 = some (.bx (eV x)) := by rw [hS]; (first | ((with_reducible (repeat (refine Eq.trans (upd_ne _ ?_) ?_; (first | assumption | (apply Ne.symm; assumption))))); first | exact upd_same _ _ _ | assumption) | ((repeat (refine Eq.trans (upd_ne _ ?_) ?_; (first | assumption | (apply Ne.symm; assumption)))); first | exact upd_same _ _ _ | assumption))
  have a8 : S id8 = some (.bx (eV zV)) := by rw [hS]; (first | ((with_reducible (repeat (refine Eq.trans (upd_ne _ ?_) ?_; (first | assumption | (apply Ne.symm; assumption))))); first | exact upd_same _ _ _ | assumption) | ((repeat (refine Eq.trans (upd_ne _ ?_) ?_; (first | assumption | (apply Ne.symm; assumption)))); first | exact upd_same _ _ _ | assumption))
  have le : Le st S := by rw [hS]; (first | (with_reducible (iterate 24 (try any_goals (first | exact Le.refl _ | assumption | apply Le.up2))); done) | (iterate 24 (try any_goals (first | exact Le.refl _ | assumption | apply Le.up2))))
  clear hS
  refine Pw.lpS (σ := Nat × Int) [2, 3, 4, 5, 8] (fun y => [(11, vI .i64 ((y.1 : Int) + 1)), (10, vI .i64 y.2)]) (fun _ => S) (fun y => y.1 ≤ kids.length ∧ (y.2 = 0 ∨ y.2 = 2) ∧ rinL x 0 (kids.map F) = rinL x y.2 ((kids.drop y.1).map F)) (fun y => kids.length - y.1) (0, 0) ⟨rfl, rfl, trivial⟩ (.refl _) ⟨Nat.zero_le _, .inl rfl, rfl⟩ fun y hy => Pw.of TP [] ?_
  obtain ⟨j, o⟩ := y
  obtain ⟨hj, ho, hr⟩ := hy
  dsimp only at hj ho hr ⊢
  conv => whnf
  repeat' (first | (refine ⟨fun h => ?_, fun h => ?_⟩ <;> conv => whnf) | (apply Exists.intro; apply And.intro; (first | ((with_reducible (repeat (refine Eq.trans (upd_ne _ ?_) ?_; (first | assumption | (apply Ne.symm; assumption))))); first | exact upd_same _ _ _ | assumption) | ((repeat (refine Eq.trans (upd_ne _ ?_) ?_; (first | assumption | (apply Ne.symm; assumption)))); first | exact upd_same _ _ _ | assumption)); refine ⟨Nat.le_of_ble_eq_true rfl, ?_⟩; conv => whnf) | (apply Exists.intro; apply And.intro; (first | ((with_reducible (repeat (refine Eq.trans (upd_ne _ ?_) ?_; (first | assumption | (apply Ne.symm; assumption))))); first | exact upd_same _ _ _ | assumption) | ((repeat (refine Eq.trans (upd_ne _ ?_) ?_; (first | assumption | (apply Ne.symm; assumption)))); first | exact upd_same _ _ _ | assumption)); conv => whnf))
  · have hj' : j < kids.length := by rw [eEs_len2, List.length_cons] at h; omega
    have hw : IntKind.i64.wrap ((j : Int) + 1 + 1) = ((j + 1 : Nat) : Int) + 1 := by
      rw [wid (by have := hl; unfold in64; unfold Big at this; simp at this; omega)]
      omega
    have hm := hk kids[j] (List.getElem_mem hj')
    have e1 : (eEs (kid :: kids))[((j : Int) + 1).toNat]? = some (eE kids[j]) := by
      rw [show ((j : Int) + 1).toNat = j + 1 by omega]
      exact eEs_at kids j hj'
    rw [List.drop_eq_getElem_cons hj', List.map_cons] at hr
    refine ⟨by omega, h, _, e1, ?_⟩
    clear e1
    generalize hke : kids[j] = ke at hm hr ⊢
    generalize F ke = p at hm hr
    cases ke
    conv => whnf
    refine Is.callV hm fun b f hp => ?_
    subst hp
    conv => whnf
    repeat' (first | (refine ⟨fun h => ?_, fun h => ?_⟩ <;> conv => whnf) | (apply Exists.intro; apply And.intro; (first | ((with_reducible (repeat (refine Eq.trans (upd_ne _ ?_) ?_; (first | assumption | (apply Ne.symm; assumption))))); first | exact upd_same _ _ _ | assumption) | ((repeat (refine Eq.trans (upd_ne _ ?_) ?_; (first | assumption | (apply Ne.symm; assumption)))); first | exact upd_same _ _ _ | assumption)); refine ⟨Nat.le_of_ble_eq_true rfl, ?_⟩; conv => whnf) | (apply Exists.intro; apply And.intro; (first | ((with_reducible (repeat (refine Eq.trans (upd_ne _ ?_) ?_; (first | assumption | (apply Ne.symm; assumption))))); first | exact upd_same _ _ _ | assumption) | ((repeat (refine Eq.trans (upd_ne _ ?_) ?_; (first | assumption | (apply Ne.symm; assumption)))); first | exact upd_same _ _ _ | assumption)); conv => whnf) | (refine Is.callN (rcompare_is _ _ _) fun t g ht => ?_; conv => whnf) | (refine (rtval_is _).call ?_; conv => whnf))
    all_goals rw [rinL] at hr
    all_goals try dsimp only at hr
    all_goals try rw [ht] at hr
    all_goals try dsimp only at hr
    · refine Fin.ev (v := zV) rfl ?_ (by (first | (with_reducible (iterate 24 (try any_goals (first | exact Le.refl _ | assumption | apply Le.up2))); done) | (iterate 24 (try any_goals (first | exact Le.refl _ | assumption | apply Le.up2)))))
      rw [hr, if_pos (by assumption)]
    · refine Fin.ev (v := zV) rfl ?_ (by (first | (with_reducible (iterate 24 (try any_goals (first | exact Le.refl _ | assumption | apply Le.up2))); done) | (iterate 24 (try any_goals (first | exact Le.refl _ | assumption | apply Le.up2)))))
      rw [hr, if_neg (by assumption), if_pos (by assumption)]
    · refine Fin.ev (v := tval 1) rfl ?_ (by (first | (with_reducible (iterate 24 (try any_goals (first | exact Le.refl _ | assumption | apply Le.up2))); done) | (iterate 24 (try any_goals (first | exact Le.refl _ | assumption | apply Le.up2)))))
      rw [hr, if_neg (by assumption), if_neg (by assumption), if_pos (by assumption)]
    · refine ⟨⟨rfl, rfl, rfl, rfl, rfl, trivial⟩, (j + 1, 2), ⟨congrArg (fun z => some (vI .i64 z)) hw, rfl, trivial⟩, .refl _, ⟨hj', .inr rfl, ?_⟩, by omega⟩
      rw [hr, if_neg (by assumption), if_neg (by assumption), if_neg (by assumption), if_pos (by assumption)]
    · refine ⟨⟨rfl, rfl, rfl, rfl, rfl, trivial⟩, (j + 1, o), ⟨congrArg (fun z => some (vI .i64 z)) hw, rfl, trivial⟩, .refl _, ⟨hj', ho, ?_⟩, by omega⟩
      rw [hr, if_neg (by assumption), if_neg (by assumption), if_neg (by assumption), if_neg (by assumption)]
  · refine (rtval_is _).call ?_
    conv => whnf
    repeat' (first | (apply Exists.intro; apply And.intro; (first | ((with_reducible (repeat (refine Eq.trans (upd_ne _ ?_) ?_; (first | assumption | (apply Ne.symm; assumption))))); first | exact upd_same _ _ _ | assumption) | ((repeat (refine Eq.trans (upd_ne _ ?_) ?_; (first | assumption | (apply Ne.symm; assumption)))); first | exact upd_same _ _ _ | assumption)); refine ⟨Nat.le_of_ble_eq_true rfl, ?_⟩; conv => whnf) | (apply Exists.intro; apply And.intro; (first | ((with_reducible (repeat (refine Eq.trans (upd_ne _ ?_) ?_; (first | assumption | (apply Ne.symm; assumption))))); first | exact upd_same _ _ _ | assumption) | ((repeat (refine Eq.trans (upd_ne _ ?_) ?_; (first | assumption | (apply Ne.symm; assumption)))); first | exact upd_same _ _ _ | assumption)); conv => whnf))
    have hlen : kids.length ≤ j := by rw [eEs_len2, List.length_cons] at h; omega
    refine Fin.ev (v := tval o) rfl ?_ (by (first | (with_reducible (iterate 24 (try any_goals (first | exact Le.refl _ | assumption | apply Le.up2))); done) | (iterate 24 (try any_goals (first | exact Le.refl _ | assumption | apply Le.up2)))))
    rw [hr, List.drop_eq_nil_of_le hlen]
    rfl
end Go.Proofs.YtbmgenifdlgbmaaGreat.D
namespace Go.Proofs.YtbmgenifdlgbmaaGreat.D
set_option linter.unusedVariables false
set_option linter.unusedSimpArgs false
open Go Go.Proofs.YtbmgenifdlgbmaaGreat.D.Pm
set_option maxRecDepth 4000
theorem tof_cases (v : Val) : tof v = (0, 0) ∨ tof v = (1, 0) ∨ tof v = (2, 0) ∨ tof v = (0, 11) := by
  unfold tof
  repeat' split
  all_goals simp
theorem both1 {op t g : Int} {x : Val} {q : Val × Int} (hop : op = 1 ∨ op = 2) (ht : tof x = (t, g)) (h : g ≠ 0) : (zV, g) = eboth op [(x, 0), q] := by
  unfold eboth; rw [ebothL_cons]; simp [ht, h]
theorem both2 {op t g : Int} {x : Val} {q : Val × Int} (ht : tof x = (t, g)) (h : g = 0) (h2 : op = 2 ∧ t = 0 ∨ op = 1 ∧ t = 1) : (tval t, (0 : Int)) = eboth op [(x, 0), q] := by
  subst h
  unfold eboth; rw [ebothL_cons, ht]
  rcases h2 with ⟨rfl, rfl⟩ | ⟨rfl, rfl⟩ <;> simp [tcome]
theorem both3 {op t g f : Int} {x b : Val} (hop : op = 1 ∨ op = 2) (ht : tof x = (t, g)) (h : g = 0) (h2 : ¬(op = 2 ∧ t = 0 ∨ op = 1 ∧ t = 1)) (hf : f ≠ 0) : (zV, f) = eboth op [(x, 0), (b, f)] := by
  subst h
  unfold eboth; rw [ebothL_cons, ht, ebothL_cons]
  rcases hop with rfl | rfl <;> simp_all
theorem both4 {op t g u g2 f : Int} {x b : Val} (hop : op = 1 ∨ op = 2) (ht : tof x = (t, g)) (h : g = 0) (h2 : ¬(op = 2 ∧ t = 0 ∨ op = 1 ∧ t = 1)) (hf : f = 0) (hu : tof b = (u, g2)) (hg : g2 ≠ 0) : (zV, g2) = eboth op [(x, 0), (b, f)] := by
  subst h
  subst hf
  unfold eboth; rw [ebothL_cons, ht, ebothL_cons, hu]
  rcases hop with rfl | rfl <;> simp_all
theorem both5 {op t g u g2 f c : Int} {x b : Val} (ht : tof x = (t, g)) (h : g = 0) (h2 : op = 2 ∧ ¬t = 0) (hf : f = 0) (hu : tof b = (u, g2)) (hg : g2 = 0) (hc : (if hasT [t, u] 0 = true then 0 else if hasT [t, u] 2 = true then 2 else 1) = c) : (tval c, (0 : Int)) = eboth op [(x, 0), (b, f)] := by
  subst h hf hg
  obtain ⟨rfl, h2⟩ := h2
  unfold eboth; rw [ebothL_cons, ht, ebothL_cons, hu]
  have A := tof_cases x; rw [ht] at A
  have B := tof_cases b; rw [hu] at B
  subst hc
  rcases A with e | e | e | e <;> cases e <;> rcases B with e | e | e | e <;> cases e <;> first | exact absurd rfl h2 | rfl | decide
theorem both6 {op t g u g2 f c : Int} {x b : Val} (ht : tof x = (t, g)) (h : g = 0) (h2 : op = 1 ∧ ¬t = 1) (hf : f = 0) (hu : tof b = (u, g2)) (hg : g2 = 0) (hc : (if hasT [t, u] 1 = true then 1 else if hasT [t, u] 2 = true then 2 else 0) = c) : (tval c, (0 : Int)) = eboth op [(x, 0), (b, f)] := by
  subst h hf hg
  obtain ⟨rfl, h2⟩ := h2
  unfold eboth; rw [ebothL_cons, ht, ebothL_cons, hu]
  have A := tof_cases x; rw [ht] at A
  have B := tof_cases b; rw [hu] at B
  subst hc
  rcases A with e | e | e | e <;> cases e <;> rcases B with e | e | e | e <;> cases e <;> first | exact absurd rfl h2 | rfl | decide
theorem rboth_is {row ps : List Val} (k op : Int) (v : Val) (nm : ByteArray) (k1 k2 : Ex) (q : Val × Int) (hop : op = 1 ∨ op = 2) (x : Val) (hk : Is Tryz.prog 16 [.g (eE k2), .c (.sl 3 (row.map eV)), .c (.sl 3 (ps.map eV))] (evR q)) :
    Is Tryz.prog 33 [.g (eE (.mk k op v nm [k1, k2])), .g (eV x), .c (.sl 3 (row.map eV)), .c (.sl 3 (ps.map eV))] (evR (eboth op [(x, 0), q])) := by
  cases k2
  refine Is.of TP Tryz.func33 rfl rfl (Nat.le_of_ble_eq_true rfl) fun st => Pw.of TP [] ?_
  conv => whnf
  intro id4 h4
  conv => whnf
  repeat' (first | (refine ⟨fun h => ?_, fun h => ?_⟩ <;> conv => whnf) | (apply Exists.intro; apply And.intro; (first | ((with_reducible (repeat (refine Eq.trans (upd_ne _ ?_) ?_; (first | assumption | (apply Ne.symm; assumption))))); first | exact upd_same _ _ _ | assumption) | ((repeat (refine Eq.trans (upd_ne _ ?_) ?_; (first | assumption | (apply Ne.symm; assumption)))); first | exact upd_same _ _ _ | assumption)); refine ⟨Nat.le_of_ble_eq_true rfl, ?_⟩; conv => whnf) | (apply Exists.intro; apply And.intro; (first | ((with_reducible (repeat (refine Eq.trans (upd_ne _ ?_) ?_; (first | assumption | (apply Ne.symm; assumption))))); first | exact upd_same _ _ _ | assumption) | ((repeat (refine Eq.trans (upd_ne _ ?_) ?_; (first | assumption | (apply Ne.symm; assumption)))); first | exact upd_same _ _ _ | assumption)); conv => whnf) | (refine Is.callN (rof_is x) fun t g ht => ?_; conv => whnf) | (refine Is.callN (rof_is b) fun u g2 hu => ?_; conv => whnf) | (refine Is.callN (rof_is _) fun t g ht => ?_; conv => whnf) | (refine (rtval_is _).call ?_; conv => whnf) | (refine ⟨by decide, by simp [eEs], _, rfl, ?_⟩; conv => whnf) | (refine Is.callV hk fun b f hp => ?_; conv => whnf) | (refine Is.callI (rand_is [t, u] (Nat.le_of_ble_eq_true rfl)) fun c hc => ?_; conv => whnf) | (refine Is.callI (ror_is [t, u] (Nat.le_of_ble_eq_true rfl)) fun c hc => ?_; conv => whnf))
  all_goals first | refine Fin.ev (v := zV) rfl ?_ (by (first | (with_reducible (iterate 24 (try any_goals (first | exact Le.refl _ | assumption | apply Le.up2))); done) | (iterate 24 (try any_goals (first | exact Le.refl _ | assumption | apply Le.up2))))) | refine Fin.ev (v := tval t) rfl ?_ (by (first | (with_reducible (iterate 24 (try any_goals (first | exact Le.refl _ | assumption | apply Le.up2))); done) | (iterate 24 (try any_goals (first | exact Le.refl _ | assumption | apply Le.up2))))) | refine Fin.ev (v := tval c) rfl ?_ (by (first | (with_reducible (iterate 24 (try any_goals (first | exact Le.refl _ | assumption | apply Le.up2))); done) | (iterate 24 (try any_goals (first | exact Le.refl _ | assumption | apply Le.up2))))) | skip
  all_goals first | (exfalso; omega) | exact both1 hop ht (by omega) | exact both2 ht (by omega) (by omega) | (subst hp; exact both3 hop ht (by omega) (by omega) (by omega)) | (subst hp; exact both4 hop ht (by omega) (by omega) (by omega) hu (by omega)) | (subst hp; exact both5 ht (by omega) (by omega) (by omega) hu (by omega) hc) | (subst hp; exact both6 ht (by omega) (by omega) (by omega) hu (by omega) hc)
end Go.Proofs.YtbmgenifdlgbmaaGreat.D
namespace Go.Proofs.YtbmgenifdlgbmaaGreat.D
set_option linter.unusedVariables false
set_option linter.unusedSimpArgs false
open Go Go.Proofs.YtbmgenifdlgbmaaGreat.D.Pm
set_option maxRecDepth 4000
theorem ixv {l : List Val} {n : Int} {K : List AC → Prop} (h0 : 0 ≤ n) (h : n < ((l.map eV).length : Int)) (k : ∀ w, eone l n = (w, 0) → K (eV w)) : 0 ≤ n ∧ n < ((l.map eV).length : Int) ∧ ∃ r, (l.map eV)[n.toNat]? = some r ∧ K r := by
  have h1 : n.toNat < l.length := by rw [List.length_map] at h; omega
  have e : l[n.toNat]? = some l[n.toNat] := List.getElem?_eq_getElem h1
  refine ⟨h0, h, eV l[n.toNat], by rw [List.getElem?_map, e]; rfl, k _ ?_⟩
  unfold eone
  rw [e]
  dsimp only
  rw [if_neg (by omega)]
theorem eone_out {l : List Val} {n : Int} (h0 : 0 ≤ n) (h : ¬ n < ((l.map eV).length : Int)) : eone l n = (zV, 37) := by
  unfold eone
  rw [List.getElem?_eq_none (by rw [List.length_map] at h; omega)]
theorem rcome_leaf {row ps : List Val} (hr : row.length ≤ Big) (hp : ps.length ≤ Big) (k op : Int) (v : Val) (nm : ByteArray) (kids : List Ex) (hk : k = 1 ∨ k = 2 ∨ (k = 8 ∧ 0 ≤ op) ∨ (k = 3 ∧ 1 ≤ op)) (hop : in64 op) : Is Tryz.prog 16 [.g (eE (.mk k op v nm kids)), .c (.sl 3 (row.map eV)), .c (.sl 3 (ps.map eV))] (evR (evalE row ps (.mk k op v nm kids))) := by
  refine Is.of TP Tryz.func16 rfl rfl (Nat.le_of_ble_eq_true rfl) fun st => Pw.of TP [] ?_
  conv => whnf
  intro id4 h4
  conv => whnf
  repeat' (first | (refine ⟨fun h => ?_, fun h => ?_⟩ <;> conv => whnf) | (apply Exists.intro; apply And.intro; (first | ((with_reducible (repeat (refine Eq.trans (upd_ne _ ?_) ?_; (first | assumption | (apply Ne.symm; assumption))))); first | exact upd_same _ _ _ | assumption) | ((repeat (refine Eq.trans (upd_ne _ ?_) ?_; (first | assumption | (apply Ne.symm; assumption)))); first | exact upd_same _ _ _ | assumption)); refine ⟨Nat.le_of_ble_eq_true rfl, ?_⟩; conv => whnf) | (apply Exists.intro; apply And.intro; (first | ((with_reducible (repeat (refine Eq.trans (upd_ne _ ?_) ?_; (first | assumption | (apply Ne.symm; assumption))))); first | exact upd_same _ _ _ | assumption) | ((repeat (refine Eq.trans (upd_ne _ ?_) ?_; (first | assumption | (apply Ne.symm; assumption)))); first | exact upd_same _ _ _ | assumption)); conv => whnf) | (exfalso; omega))
  · refine Fin.ev (v := v) rfl ?_ (by (first | (with_reducible (iterate 24 (try any_goals (first | exact Le.refl _ | assumption | apply Le.up2))); done) | (iterate 24 (try any_goals (first | exact Le.refl _ | assumption | apply Le.up2)))))
    rw [evalE, if_pos h]
  · refine Fin.ev (v := zV) rfl ?_ (by (first | (with_reducible (iterate 24 (try any_goals (first | exact Le.refl _ | assumption | apply Le.up2))); done) | (iterate 24 (try any_goals (first | exact Le.refl _ | assumption | apply Le.up2)))))
    subst h
    rw [evalE]; simp
  · refine ixv (by omega) h fun w hw => ?_
    conv => whnf
    repeat' (first | (apply Exists.intro; apply And.intro; (first | ((with_reducible (repeat (refine Eq.trans (upd_ne _ ?_) ?_; (first | assumption | (apply Ne.symm; assumption))))); first | exact upd_same _ _ _ | assumption) | ((repeat (refine Eq.trans (upd_ne _ ?_) ?_; (first | assumption | (apply Ne.symm; assumption)))); first | exact upd_same _ _ _ | assumption)); refine ⟨Nat.le_of_ble_eq_true rfl, ?_⟩; conv => whnf) | (apply Exists.intro; apply And.intro; (first | ((with_reducible (repeat (refine Eq.trans (upd_ne _ ?_) ?_; (first | assumption | (apply Ne.symm; assumption))))); first | exact upd_same _ _ _ | assumption) | ((repeat (refine Eq.trans (upd_ne _ ?_) ?_; (first | assumption | (apply Ne.symm; assumption)))); first | exact upd_same _ _ _ | assumption)); conv => whnf))
    refine Fin.ev (v := w) rfl ?_ (by (first | (with_reducible (iterate 24 (try any_goals (first | exact Le.refl _ | assumption | apply Le.up2))); done) | (iterate 24 (try any_goals (first | exact Le.refl _ | assumption | apply Le.up2)))))
    have e8 : k = 8 := by assumption
    subst e8
    rw [evalE, if_neg (by decide), if_pos rfl, hw]
  · refine Fin.ev (v := zV) rfl ?_ (by (first | (with_reducible (iterate 24 (try any_goals (first | exact Le.refl _ | assumption | apply Le.up2))); done) | (iterate 24 (try any_goals (first | exact Le.refl _ | assumption | apply Le.up2)))))
    subst h
    rw [evalE, if_neg (by decide), if_pos rfl, eone_out (by omega) (by assumption)]
  · have hw1 : IntKind.i64.wrap (op - 1) = op - 1 := wid (by unfold in64 at *; omega)
    rw [hw1]
    refine ixv (by omega) (by omega) fun w hw => ?_
    conv => whnf
    repeat' (first | (apply Exists.intro; apply And.intro; (first | ((with_reducible (repeat (refine Eq.trans (upd_ne _ ?_) ?_; (first | assumption | (apply Ne.symm; assumption))))); first | exact upd_same _ _ _ | assumption) | ((repeat (refine Eq.trans (upd_ne _ ?_) ?_; (first | assumption | (apply Ne.symm; assumption)))); first | exact upd_same _ _ _ | assumption)); refine ⟨Nat.le_of_ble_eq_true rfl, ?_⟩; conv => whnf) | (apply Exists.intro; apply And.intro; (first | ((with_reducible (repeat (refine Eq.trans (upd_ne _ ?_) ?_; (first | assumption | (apply Ne.symm; assumption))))); first | exact upd_same _ _ _ | assumption) | ((repeat (refine Eq.trans (upd_ne _ ?_) ?_; (first | assumption | (apply Ne.symm; assumption)))); first | exact upd_same _ _ _ | assumption)); conv => whnf))
    refine Fin.ev (v := w) rfl ?_ (by (first | (with_reducible (iterate 24 (try any_goals (first | exact Le.refl _ | assumption | apply Le.up2))); done) | (iterate 24 (try any_goals (first | exact Le.refl _ | assumption | apply Le.up2)))))
    have e3 : k = 3 := by assumption
    subst e3
    rw [evalE, if_neg (by decide), if_neg (by decide), if_pos rfl, hw1, hw]
  · refine Fin.ev (v := zV) rfl ?_ (by (first | (with_reducible (iterate 24 (try any_goals (first | exact Le.refl _ | assumption | apply Le.up2))); done) | (iterate 24 (try any_goals (first | exact Le.refl _ | assumption | apply Le.up2)))))
    subst h
    have hw1 : IntKind.i64.wrap (op - 1) = op - 1 := wid (by unfold in64 at *; omega)
    rw [evalE, if_neg (by decide), if_neg (by decide), if_pos rfl, hw1, eone_out (by omega) (by omega)]
end Go.Proofs.YtbmgenifdlgbmaaGreat.D
namespace Go.Proofs.YtbmgenifdlgbmaaGreat.D
set_option linter.unusedVariables false
set_option linter.unusedSimpArgs false
open Go Go.Proofs.YtbmgenifdlgbmaaGreat.D.Pm
set_option maxRecDepth 4000
theorem rcome_un {row ps : List Val} (op : Int) (v : Val) (nm : ByteArray) (kid : Ex) (p : Val × Int) (hn : in64 p.1.n) (hm : Is Tryz.prog 16 [.g (eE kid), .c (.sl 3 (row.map eV)), .c (.sl 3 (ps.map eV))] (evR p)) : Is Tryz.prog 16 [.g (eE (.mk 4 op v nm [kid])), .c (.sl 3 (row.map eV)), .c (.sl 3 (ps.map eV))] (evR (eun op p)) := by
  cases kid
  refine Is.of TP Tryz.func16 rfl rfl (Nat.le_of_ble_eq_true rfl) fun st => Pw.of TP [] ?_
  conv => whnf
  intro id4 h4
  conv => whnf
  repeat' (first | (refine ⟨fun h => ?_, fun h => ?_⟩ <;> conv => whnf) | (apply Exists.intro; apply And.intro; (first | ((with_reducible (repeat (refine Eq.trans (upd_ne _ ?_) ?_; (first | assumption | (apply Ne.symm; assumption))))); first | exact upd_same _ _ _ | assumption) | ((repeat (refine Eq.trans (upd_ne _ ?_) ?_; (first | assumption | (apply Ne.symm; assumption)))); first | exact upd_same _ _ _ | assumption)); refine ⟨Nat.le_of_ble_eq_true rfl, ?_⟩; conv => whnf) | (apply Exists.intro; apply And.intro; (first | ((with_reducible (repeat (refine Eq.trans (upd_ne _ ?_) ?_; (first | assumption | (apply Ne.symm; assumption))))); first | exact upd_same _ _ _ | assumption) | ((repeat (refine Eq.trans (upd_ne _ ?_) ?_; (first | assumption | (apply Ne.symm; assumption)))); first | exact upd_same _ _ _ | assumption)); conv => whnf) | (exfalso; omega) | (refine ⟨by decide, by simp [eEs], _, rfl, ?_⟩; conv => whnf) | (refine Is.callV hm fun b f hp => ?_; subst hp; conv => whnf) | (refine Is.callV (rone_is 4 op v nm _ b hn) fun y m hym => ?_; conv => whnf))
  · refine Fin.ev (v := zV) rfl ?_ (by (first | (with_reducible (iterate 24 (try any_goals (first | exact Le.refl _ | assumption | apply Le.up2))); done) | (iterate 24 (try any_goals (first | exact Le.refl _ | assumption | apply Le.up2)))))
    unfold eun; rw [if_pos h]
  · refine Fin.ev (v := y) rfl ?_ (by (first | (with_reducible (iterate 24 (try any_goals (first | exact Le.refl _ | assumption | apply Le.up2))); done) | (iterate 24 (try any_goals (first | exact Le.refl _ | assumption | apply Le.up2)))))
    rw [← hym]
    congr 2
    omega
end Go.Proofs.YtbmgenifdlgbmaaGreat.D
namespace Go.Proofs.YtbmgenifdlgbmaaGreat.D
set_option linter.unusedVariables false
set_option linter.unusedSimpArgs false
open Go Go.Proofs.YtbmgenifdlgbmaaGreat.D.Pm
set_option maxRecDepth 4000
theorem rcome_in {row ps : List Val} (op : Int) (v : Val) (nm : ByteArray) (kid : Ex) (kids : List Ex) (F : Ex → Val × Int) (hl : (kid :: kids).length ≤ Big) (hm : ∀ e ∈ kid :: kids, Is Tryz.prog 16 [.g (eE e), .c (.sl 3 (row.map eV)), .c (.sl 3 (ps.map eV))] (evR (F e))) : Is Tryz.prog 16 [.g (eE (.mk 6 op v nm (kid :: kids))), .c (.sl 3 (row.map eV)), .c (.sl 3 (ps.map eV))] (evR (ein ((kid :: kids).map F))) := by
  have h1 := hm kid (List.mem_cons_self ..)
  have hin : ∀ x, _ := fun x => rin_is 6 op v nm kid kids F hl x (fun e he => hm e (List.mem_cons_of_mem _ he))
  rw [List.map_cons]
  clear hm
  generalize F kid = p at h1
  cases kid
  refine Is.of TP Tryz.func16 rfl rfl (Nat.le_of_ble_eq_true rfl) fun st => Pw.of TP [] ?_
  conv => whnf
  intro id4 h4
  conv => whnf
  repeat' (first | (refine ⟨fun h => ?_, fun h => ?_⟩ <;> conv => whnf) | (apply Exists.intro; apply And.intro; (first | ((with_reducible (repeat (refine Eq.trans (upd_ne _ ?_) ?_; (first | assumption | (apply Ne.symm; assumption))))); first | exact upd_same _ _ _ | assumption) | ((repeat (refine Eq.trans (upd_ne _ ?_) ?_; (first | assumption | (apply Ne.symm; assumption)))); first | exact upd_same _ _ _ | assumption)); refine ⟨Nat.le_of_ble_eq_true rfl, ?_⟩; conv => whnf) | (apply Exists.intro; apply And.intro; (first | ((with_reducible (repeat (refine Eq.trans (upd_ne _ ?_) ?_; (first | assumption | (apply Ne.symm; assumption))))); first | exact upd_same _ _ _ | assumption) | ((repeat (refine Eq.trans (upd_ne _ ?_) ?_; (first | assumption | (apply Ne.symm; assumption)))); first | exact upd_same _ _ _ | assumption)); conv => whnf) | (exfalso; omega) | (refine ⟨by decide, by simp [eEs], _, rfl, ?_⟩; conv => whnf) | (refine Is.callV h1 fun b f hp => ?_; subst hp; conv => whnf) | (refine Is.callV (hin b) fun y m hym => ?_; conv => whnf))
  · refine Fin.ev (v := zV) rfl ?_ (by (first | (with_reducible (iterate 24 (try any_goals (first | exact Le.refl _ | assumption | apply Le.up2))); done) | (iterate 24 (try any_goals (first | exact Le.refl _ | assumption | apply Le.up2)))))
    unfold ein; dsimp only; rw [if_pos (.inl h)]
  · refine Fin.ev (v := y) rfl ?_ (by (first | (with_reducible (iterate 24 (try any_goals (first | exact Le.refl _ | assumption | apply Le.up2))); done) | (iterate 24 (try any_goals (first | exact Le.refl _ | assumption | apply Le.up2)))))
    rw [← hym]
    unfold ein; dsimp only
    have hf : f = 0 := by omega
    subst hf
    by_cases hb : b.k = 0
    · rw [if_pos hb, if_pos (.inr hb)]
    · rw [if_neg hb, if_neg (by simp [hb]), einL_rin _ _ (.inl rfl)]
end Go.Proofs.YtbmgenifdlgbmaaGreat.D
namespace Go.Proofs.YtbmgenifdlgbmaaGreat.D
set_option linter.unusedVariables false
set_option linter.unusedSimpArgs false
open Go Go.Proofs.YtbmgenifdlgbmaaGreat.D.Pm
set_option maxRecDepth 4000
theorem rcome_bin {row ps : List Val} (op : Int) (v : Val) (nm : ByteArray) (k1 k2 : Ex) (p q : Val × Int) (hop : 1 ≤ op) (hp : okV p.1) (hq : okV q.1) (h1 : Is Tryz.prog 16 [.g (eE k1), .c (.sl 3 (row.map eV)), .c (.sl 3 (ps.map eV))] (evR p)) (h2 : Is Tryz.prog 16 [.g (eE k2), .c (.sl 3 (row.map eV)), .c (.sl 3 (ps.map eV))] (evR q)) : Is Tryz.prog 16 [.g (eE (.mk 5 op v nm [k1, k2])), .c (.sl 3 (row.map eV)), .c (.sl 3 (ps.map eV))] (evR (if op ≤ 2 then eboth op [p, q] else ebin op p q)) := by
  have hbo : ∀ x, op = 1 ∨ op = 2 → _ := fun x ho => rboth_is 5 op v nm k1 k2 q ho x h2
  cases k1
  cases k2
  refine Is.of TP Tryz.func16 rfl rfl (Nat.le_of_ble_eq_true rfl) fun st => Pw.of TP [] ?_
  conv => whnf
  intro id4 h4
  conv => whnf
  repeat' (first | (refine ⟨fun h => ?_, fun h => ?_⟩ <;> conv => whnf) | (apply Exists.intro; apply And.intro; (first | ((with_reducible (repeat (refine Eq.trans (upd_ne _ ?_) ?_; (first | assumption | (apply Ne.symm; assumption))))); first | exact upd_same _ _ _ | assumption) | ((repeat (refine Eq.trans (upd_ne _ ?_) ?_; (first | assumption | (apply Ne.symm; assumption)))); first | exact upd_same _ _ _ | assumption)); refine ⟨Nat.le_of_ble_eq_true rfl, ?_⟩; conv => whnf) | (apply Exists.intro; apply And.intro; (first | ((with_reducible (repeat (refine Eq.trans (upd_ne _ ?_) ?_; (first | assumption | (apply Ne.symm; assumption))))); first | exact upd_same _ _ _ | assumption) | ((repeat (refine Eq.trans (upd_ne _ ?_) ?_; (first | assumption | (apply Ne.symm; assumption)))); first | exact upd_same _ _ _ | assumption)); conv => whnf) | (exfalso; omega) | (refine ⟨by decide, by simp [eEs], _, rfl, ?_⟩; conv => whnf) | (refine Is.callV h1 fun b f he => ?_; subst he; conv => whnf) | (refine Is.callV h2 fun c g he => ?_; subst he; conv => whnf) | (refine Is.callV (hbo b (by omega)) fun y m hym => ?_; conv => whnf) | (refine Is.callV (rmath_is op b c hp.1 hq.1 hp.2 hq.2) fun y m hym => ?_; conv => whnf) | (refine Is.callN (rcompare_is _ _ _) fun t z ht => ?_; conv => whnf) | (refine (rtval_is _).call ?_; conv => whnf))
  · refine Fin.ev (v := zV) rfl ?_ (by (first | (with_reducible (iterate 24 (try any_goals (first | exact Le.refl _ | assumption | apply Le.up2))); done) | (iterate 24 (try any_goals (first | exact Le.refl _ | assumption | apply Le.up2)))))
    by_cases ho : op ≤ 2
    · rw [if_pos ho]; unfold eboth; rw [ebothL_cons, if_pos h]
    · rw [if_neg ho]; unfold ebin; rw [if_pos h]
  · refine Fin.ev (v := y) rfl ?_ (by (first | (with_reducible (iterate 24 (try any_goals (first | exact Le.refl _ | assumption | apply Le.up2))); done) | (iterate 24 (try any_goals (first | exact Le.refl _ | assumption | apply Le.up2)))))
    have hf : f = 0 := by omega
    subst hf
    rw [if_pos (show op ≤ 2 by assumption), hym]
  · refine Fin.ev (v := zV) rfl ?_ (by (first | (with_reducible (iterate 24 (try any_goals (first | exact Le.refl _ | assumption | apply Le.up2))); done) | (iterate 24 (try any_goals (first | exact Le.refl _ | assumption | apply Le.up2)))))
    rw [if_neg (by omega)]; unfold ebin; rw [if_neg (by assumption), if_pos h]
  · refine Fin.ev (v := y) rfl ?_ (by (first | (with_reducible (iterate 24 (try any_goals (first | exact Le.refl _ | assumption | apply Le.up2))); done) | (iterate 24 (try any_goals (first | exact Le.refl _ | assumption | apply Le.up2)))))
    rw [if_neg (by omega)]; unfold ebin; rw [if_neg (by assumption), if_neg (by assumption), if_neg (by omega), hym]
  · refine Fin.ev (v := zV) rfl ?_ (by (first | (with_reducible (iterate 24 (try any_goals (first | exact Le.refl _ | assumption | apply Le.up2))); done) | (iterate 24 (try any_goals (first | exact Le.refl _ | assumption | apply Le.up2)))))
    rw [if_neg (by omega)]; unfold ebin; rw [if_neg (by assumption), if_neg (by assumption), if_pos (by omega), ht]
    unfold eknown; rw [if_pos h]
  · refine Fin.ev (v := tval t) rfl ?_ (by (first | (with_reducible (iterate 24 (try any_goals (first | exact Le.refl _ | assumption | apply Le.up2))); done) | (iterate 24 (try any_goals (first | exact Le.refl _ | assumption | apply Le.up2)))))
    rw [if_neg (by omega)]; unfold ebin; rw [if_neg (by assumption), if_neg (by assumption), if_pos (by omega), ht]
    unfold eknown; rw [if_neg h]
end Go.Proofs.YtbmgenifdlgbmaaGreat.D
namespace Go.Proofs.YtbmgenifdlgbmaaGreat.D
set_option linter.unusedVariables false
set_option linter.unusedSimpArgs false
open Go Go.Proofs.YtbmgenifdlgbmaaGreat.D.Pm
set_option maxRecDepth 4000
/-- Coalesce, as the document's loop says it -/
def rcoal (a : Val) : List (Val × Int) → Val × Int
  | [] => (a, 0)
  | p :: r => if a.k ≠ 0 then (a, 0) else if p.2 ≠ 0 then (zV, p.2) else rcoal p.1 r
theorem rcoal_ne {a : Val} (h : a.k ≠ 0) : ∀ l, rcoal a l = (a, 0)
  | [] => rfl
  | p :: l => by rw [rcoal, if_pos h]
def rnull (p : Val × Int) : Val × Int := if p.2 = 0 ∧ p.1.k = 0 then (zV, 0) else p
theorem ecoal_rcoal : ∀ (l : List (Val × Int)) (a : Val), (∀ p ∈ l, zr p) → ecoal ((a, 0) :: l) = rnull (rcoal a l)
  | [], a, h => by
    unfold ecoal rcoal rnull
    by_cases h1 : a.k = 0
    · rw [if_neg (by simpa using h1), if_pos ⟨rfl, h1⟩]; rfl
    · rw [if_pos (.inr h1), if_neg (fun h => h1 h.2)]
  | p :: l, a, h => by
    have hp := h p (List.mem_cons_self ..)
    rw [ecoal, rcoal]
    by_cases h1 : a.k ≠ 0
    · rw [if_pos (.inr h1), if_pos h1]
      unfold rnull
      rw [if_neg (fun h => h1 h.2)]
    · rw [if_neg (by simpa using h1), if_neg h1]
      obtain ⟨b, f⟩ := p
      by_cases h2 : f ≠ 0
      · rw [if_pos h2, ecoal, if_pos (.inl h2), show b = zV from hp h2]
        unfold rnull
        rw [if_neg (fun h => h2 h.1)]
      · rw [if_neg h2]
        have : f = 0 := by omega
        subst this
        exact ecoal_rcoal l b fun q hq => h q (List.mem_cons_of_mem _ hq)
theorem Le.upS {S : Sto} {id : Nat} {o : Ob} (h : S id = some o) : Le (upd S id o) S := fun i o' hi => by
  unfold upd at hi
  by_cases e : i = id
  · rw [if_pos e] at hi; cases hi; rw [e]; exact h
  · rw [if_neg e] at hi; exact hi
theorem Le.upU {S : Sto} {id : Nat} {o o' : Ob} : Le (upd S id o') (upd (upd S id o) id o') := fun i x hi => by
  unfold upd at hi ⊢
  by_cases e : i = id
  · rw [if_pos e] at hi ⊢; exact hi
  · rw [if_neg e] at hi ⊢; rw [if_neg e]; exact hi
theorem rcome_call {row ps : List Val} (op : Int) (v : Val) (nm : ByteArray) (kid : Ex) (kids : List Ex) (F : Ex → Val × Int) (hl : (kid :: kids).length ≤ Big) (hF : ∀ e ∈ kid :: kids, zr (F e)) (hO : okV (F kid).1) (hm : ∀ e ∈ kid :: kids, Is Tryz.prog 16 [.g (eE e), .c (.sl 3 (row.map eV)), .c (.sl 3 (ps.map eV))] (evR (F e))) : Is Tryz.prog 16 [.g (eE (.mk 7 op v nm (kid :: kids))), .c (.sl 3 (row.map eV)), .c (.sl 3 (ps.map eV))] (evR (ecall nm ((kid :: kids).map F))) := by
  have h1 := hm kid (List.mem_cons_self ..)
  have h2 : ∀ e ∈ kids, Is Tryz.prog 16 [.g (eE e), .c (.sl 3 (row.map eV)), .c (.sl 3 (ps.map eV))] (evR (F e)) := fun e he => hm e (List.mem_cons_of_mem _ he)
  have z1 := hF kid (List.mem_cons_self ..)
  rw [List.map_cons]
  clear hm
  generalize F kid = p at h1 hO z1
  have hz : ∀ p ∈ kids.map F, zr p := fun p hp => by
    obtain ⟨e, he, rfl⟩ := List.mem_map.1 hp
    exact hF e (List.mem_cons_of_mem _ he)
  have h1' : ∀ K (st : Sto), (∀ v n, p = (v, n) → K (.t [.g (eV v), vI .i64 n]) st) → Does Tryz.prog 16 [.g (eE kid), .c (.sl 3 (row.map eV)), .c (.sl 3 (ps.map eV))] st K := fun K st hk => Is.callV h1 hk
  cases kid with
  | mk k1 op1 v1 nm1 kids1 =>
  refine Is.of TP Tryz.func16 rfl rfl (Nat.le_of_ble_eq_true rfl) fun st => Pw.of TP [1000008] ?_
  conv => whnf
  intro id4 h4
  conv => whnf
  repeat' (first | (refine ⟨fun h => ?_, fun h => ?_⟩ <;> conv => whnf) | (apply Exists.intro; apply And.intro; (first | ((with_reducible (repeat (refine Eq.trans (upd_ne _ ?_) ?_; (first | assumption | (apply Ne.symm; assumption))))); first | exact upd_same _ _ _ | assumption) | ((repeat (refine Eq.trans (upd_ne _ ?_) ?_; (first | assumption | (apply Ne.symm; assumption)))); first | exact upd_same _ _ _ | assumption)); refine ⟨Nat.le_of_ble_eq_true rfl, ?_⟩; conv => whnf) | (apply Exists.intro; apply And.intro; (first | ((with_reducible (repeat (refine Eq.trans (upd_ne _ ?_) ?_; (first | assumption | (apply Ne.symm; assumption))))); first | exact upd_same _ _ _ | assumption) | ((repeat (refine Eq.trans (upd_ne _ ?_) ?_; (first | assumption | (apply Ne.symm; assumption)))); first | exact upd_same _ _ _ | assumption)); conv => whnf) | (exfalso; omega) | (refine ⟨by decide, by simp [eEs], _, rfl, ?_⟩; conv => whnf))
  refine h1' _ _ fun b f hp => ?_
  subst hp
  conv => whnf
  intro id8 h8
  conv => whnf
  have n48 : id4 ≠ id8 := fresh_ne h8 (upd_same _ _ _)
  have h8' : st id8 = none := Le.none (by (first | (with_reducible (iterate 24 (try any_goals (first | exact Le.refl _ | assumption | apply Le.up2))); done) | (iterate 24 (try any_goals (first | exact Le.refl _ | assumption | apply Le.up2))))) h8
  clear h8
  repeat' (first | (refine ⟨fun h => ?_, fun h => ?_⟩ <;> conv => whnf) | (apply Exists.intro; apply And.intro; (first | ((with_reducible (repeat (refine Eq.trans (upd_ne _ ?_) ?_; (first | assumption | (apply Ne.symm; assumption))))); first | exact upd_same _ _ _ | assumption) | ((repeat (refine Eq.trans (upd_ne _ ?_) ?_; (first | assumption | (apply Ne.symm; assumption)))); first | exact upd_same _ _ _ | assumption)); refine ⟨Nat.le_of_ble_eq_true rfl, ?_⟩; conv => whnf) | (apply Exists.intro; apply And.intro; (first | ((with_reducible (repeat (refine Eq.trans (upd_ne _ ?_) ?_; (first | assumption | (apply Ne.symm; assumption))))); first | exact upd_same _ _ _ | assumption) | ((repeat (refine Eq.trans (upd_ne _ ?_) ?_; (first | assumption | (apply Ne.symm; assumption)))); first | exact upd_same _ _ _ | assumption)); conv => whnf) | (exfalso; omega) | (refine Is.callV (rcall_is nm b hO.1 hO.2) fun y m hym => ?_; conv => whnf))
  · refine Fin.ev (v := zV) rfl ?_ (by (first | (with_reducible (iterate 24 (try any_goals (first | exact Le.refl _ | assumption | apply Le.up2))); done) | (iterate 24 (try any_goals (first | exact Le.refl _ | assumption | apply Le.up2)))))
    have hb : b = zV := z1 h
    subst hb
    unfold ecall
    split
    · rw [ecoal, if_pos (.inl h)]
    · dsimp only; rw [if_pos (.inl h)]
  · have hf : f = 0 := by omega
    subst hf
    have hg : rnull (rcoal b (kids.map F)) = ecall nm ((b, 0) :: kids.map F) := by rw [ecall, if_pos (by assumption), ecoal_rcoal _ _ hz]
    clear hz hF h1' h1 z1
    refine Pw.gen fun S hS => ?_
    have a4 : S id4 = some (.bx (eV zV)) := by rw [hS]; (first | ((with_reducible (repeat (refine Eq.trans (upd_ne _ ?_) ?_; (first | assumption | (apply Ne.symm; assumption))))); first | exact upd_same _ _ _ | assumption) | ((repeat (refine Eq.trans (upd_ne _ ?_) ?_; (first | assumption | (apply Ne.symm; assumption)))); first | exact upd_same _ _ _ | assumption))
    have a8 : S id8 = some (.bx (eV b)) := by rw [hS]; (first | ((with_reducible (repeat (refine Eq.trans (upd_ne _ ?_) ?_; (first | assumption | (apply Ne.symm; assumption))))); first | exact upd_same _ _ _ | assumption) | ((repeat (refine Eq.trans (upd_ne _ ?_) ?_; (first | assumption | (apply Ne.symm; assumption)))); first | exact upd_same _ _ _ | assumption))
    have le : Le st S := by rw [hS]; (first | (with_reducible (iterate 24 (try any_goals (first | exact Le.refl _ | assumption | apply Le.up2))); done) | (iterate 24 (try any_goals (first | exact Le.refl _ | assumption | apply Le.up2))))
    clear hS
    refine Pw.lpS (σ := Nat × Val) [1, 2, 3, 6, 8] (fun y => [(10, vI .i64 ((y.1 : Int) + 1))]) (fun y => upd S id8 (.bx (eV y.2))) (fun y => y.1 ≤ kids.length ∧ rcoal b (kids.map F) = rcoal y.2 ((kids.drop y.1).map F)) (fun y => kids.length - y.1) (0, b) ⟨rfl, trivial⟩ (Le.upS a8) ⟨Nat.zero_le _, rfl⟩ fun y hy => Pw.of TP [] ?_
    obtain ⟨j, o⟩ := y
    obtain ⟨hj, hr⟩ := hy
    dsimp only at hj hr ⊢
    conv => whnf
    repeat' (first | (refine ⟨fun h => ?_, fun h => ?_⟩ <;> conv => whnf) | (apply Exists.intro; apply And.intro; (first | ((with_reducible (repeat (refine Eq.trans (upd_ne _ ?_) ?_; (first | assumption | (apply Ne.symm; assumption))))); first | exact upd_same _ _ _ | assumption) | ((repeat (refine Eq.trans (upd_ne _ ?_) ?_; (first | assumption | (apply Ne.symm; assumption)))); first | exact upd_same _ _ _ | assumption)); refine ⟨Nat.le_of_ble_eq_true rfl, ?_⟩; conv => whnf) | (apply Exists.intro; apply And.intro; (first | ((with_reducible (repeat (refine Eq.trans (upd_ne _ ?_) ?_; (first | assumption | (apply Ne.symm; assumption))))); first | exact upd_same _ _ _ | assumption) | ((repeat (refine Eq.trans (upd_ne _ ?_) ?_; (first | assumption | (apply Ne.symm; assumption)))); first | exact upd_same _ _ _ | assumption)); conv => whnf))
    · have hj' : j < kids.length := by rename_i q1; rw [eEs_len2, List.length_cons] at q1; omega
      have hw : IntKind.i64.wrap ((j : Int) + 1 + 1) = ((j + 1 : Nat) : Int) + 1 := by
        rw [wid (by have := hl; unfold in64; unfold Big at this; simp at this; omega)]
        omega
      have hm := h2 kids[j] (List.getElem_mem hj')
      have e1 : (eEs (.mk k1 op1 v1 nm1 kids1 :: kids))[((j : Int) + 1).toNat]? = some (eE kids[j]) := by
        rw [show ((j : Int) + 1).toNat = j + 1 by omega]
        exact eEs_at kids j hj'
      rw [List.drop_eq_getElem_cons hj', List.map_cons, rcoal, if_neg (by simpa using h)] at hr
      refine ⟨by omega, by assumption, _, e1, ?_⟩
      clear e1
      generalize hke : kids[j] = ke at hm hr ⊢
      generalize F ke = p at hm hr
      cases ke
      conv => whnf
      refine Is.callV hm fun c f hp => ?_
      subst hp
      conv => whnf
      repeat' (first | (refine ⟨fun h => ?_, fun h => ?_⟩ <;> conv => whnf) | (apply Exists.intro; apply And.intro; (first | ((with_reducible (repeat (refine Eq.trans (upd_ne _ ?_) ?_; (first | assumption | (apply Ne.symm; assumption))))); first | exact upd_same _ _ _ | assumption) | ((repeat (refine Eq.trans (upd_ne _ ?_) ?_; (first | assumption | (apply Ne.symm; assumption)))); first | exact upd_same _ _ _ | assumption)); refine ⟨Nat.le_of_ble_eq_true rfl, ?_⟩; conv => whnf) | (apply Exists.intro; apply And.intro; (first | ((with_reducible (repeat (refine Eq.trans (upd_ne _ ?_) ?_; (first | assumption | (apply Ne.symm; assumption))))); first | exact upd_same _ _ _ | assumption) | ((repeat (refine Eq.trans (upd_ne _ ?_) ?_; (first | assumption | (apply Ne.symm; assumption)))); first | exact upd_same _ _ _ | assumption)); conv => whnf))
      · refine Fin.ev (v := zV) rfl ?_ (by (first | (with_reducible (iterate 24 (try any_goals (first | exact Le.refl _ | assumption | apply Le.up2))); done) | (iterate 24 (try any_goals (first | exact Le.refl _ | assumption | apply Le.up2)))))
        rw [← hg, hr, if_pos (by assumption)]
        unfold rnull
        rw [if_neg (fun h => by simp_all)]
      · refine ⟨⟨rfl, rfl, rfl, rfl, rfl, trivial⟩, (j + 1, c), ⟨congrArg (fun z => some (vI .i64 z)) hw, trivial⟩, Le.upU, ⟨hj', ?_⟩, by omega⟩
        rw [hr, if_neg (by assumption)]
    · exfalso; contradiction
    · refine Fin.ev (v := o) rfl ?_ (by (first | (with_reducible (iterate 24 (try any_goals (first | exact Le.refl _ | assumption | apply Le.up2))); done) | (iterate 24 (try any_goals (first | exact Le.refl _ | assumption | apply Le.up2)))))
      rw [← hg, hr, rcoal_ne (by assumption)]
      unfold rnull
      rw [if_neg (fun h => by simp_all)]
    · refine Fin.ev (v := zV) rfl ?_ (by (first | (with_reducible (iterate 24 (try any_goals (first | exact Le.refl _ | assumption | apply Le.up2))); done) | (iterate 24 (try any_goals (first | exact Le.refl _ | assumption | apply Le.up2)))))
      have hlen : kids.length ≤ j := by rename_i q1; rw [eEs_len2, List.length_cons] at q1; omega
      rw [← hg, hr, List.drop_eq_nil_of_le hlen]
      unfold rnull
      exact (if_pos ⟨rfl, h⟩).symm
    · refine Fin.ev (v := o) rfl ?_ (by (first | (with_reducible (iterate 24 (try any_goals (first | exact Le.refl _ | assumption | apply Le.up2))); done) | (iterate 24 (try any_goals (first | exact Le.refl _ | assumption | apply Le.up2)))))
      rw [← hg, hr, rcoal_ne (by assumption)]
      unfold rnull
      rw [if_neg (fun h => by simp_all)]
  · refine Fin.ev (v := y) rfl ?_ (by (first | (with_reducible (iterate 24 (try any_goals (first | exact Le.refl _ | assumption | apply Le.up2))); done) | (iterate 24 (try any_goals (first | exact Le.refl _ | assumption | apply Le.up2)))))
    have hf : f = 0 := by omega
    subst hf
    rw [ecall, if_neg (by assumption), ← hym]
    dsimp only
    by_cases hk : b.k = 0
    · rw [if_pos hk, if_pos (.inr hk)]
    · rw [if_neg hk, if_neg (show ¬ ((0 : Int) ≠ 0 ∨ b.k = 0) by simpa using hk)]
end Go.Proofs.YtbmgenifdlgbmaaGreat.D
namespace Go.Proofs.YtbmgenifdlgbmaaGreat.D
set_option linter.unusedVariables false
set_option linter.unusedSimpArgs false
open Go Go.Proofs.YtbmgenifdlgbmaaGreat.D.Pm
set_option maxRecDepth 4000
theorem rcome_is {row ps : List Val} (hr : ∀ v ∈ row, okV v) (hp : ∀ v ∈ ps, okV v) (hr' : row.length ≤ Big) (hp' : ps.length ≤ Big) : ∀ e, okE e → inE e → allE (rightE true) e = true → Is Tryz.prog 16 [.g (eE e), .c (.sl 3 (row.map eV)), .c (.sl 3 (ps.map eV))] (evR (evalE row ps e)) := by
  refine Ex.ind fun k op v nm kids ih ho hi ha => ?_
  rw [allE, Bool.and_eq_true, allEs_all, List.all_eq_true] at ha
  obtain ⟨ha1, ha2⟩ := ha
  have hK : ∀ e ∈ kids, Is Tryz.prog 16 [.g (eE e), .c (.sl 3 (row.map eV)), .c (.sl 3 (ps.map eV))] (evR (evalE row ps e)) := fun e he => ih e he (okEs_all ho.2.2.2 e he) (inEs_all hi.2 e he) (ha2 e he)
  have hV : ∀ e ∈ kids, okV (evalE row ps e).1 := fun e he => eval_ok hr hp e (okEs_all ho.2.2.2 e he) (inEs_all hi.2 e he)
  have hb : kids.length ≤ Big := ho.2.2.1
  clear ih
  unfold rightE at ha1
  dsimp only at ha1
  by_cases k1 : k = 1
  · rw [if_pos k1] at ha1
    exact rcome_leaf hr' hp' k op v nm kids (.inl k1) (by simp [bare] at ha1; unfold in64; omega)
  rw [if_neg k1] at ha1
  by_cases k2 : k = 2
  · rw [if_pos k2] at ha1
    exact rcome_leaf hr' hp' k op v nm kids (.inr (.inl k2)) (by simp [bare] at ha1; unfold in64; omega)
  rw [if_neg k2] at ha1
  by_cases k3 : k = 3
  · rw [if_pos k3] at ha1
    have : 1 ≤ op ∧ op ≤ 6 := by simp [bare] at ha1; omega
    exact rcome_leaf hr' hp' k op v nm kids (.inr (.inr (.inr ⟨k3, this.1⟩))) (by unfold in64; omega)
  rw [if_neg k3] at ha1
  by_cases k4 : k = 4
  · rw [if_pos k4] at ha1
    subst k4
    have hl : kids.length = 1 := by simp at ha1; exact ha1.1
    match kids, hl with
    | [kid], _ =>
      have := rcome_un op v nm kid _ (hV kid (by simp)).1 (hK kid (by simp))
      refine this.eq (congrArg evR ?_)
      rw [evalE, evalEs_map]; simp [hd]
  rw [if_neg k4] at ha1
  by_cases k5 : k = 5
  · rw [if_pos k5] at ha1
    subst k5
    have hl : kids.length = 2 ∧ 1 ≤ op := by simp at ha1; omega
    match kids, hl.1 with
    | [a, b], _ =>
      have := rcome_bin op v nm a b _ _ hl.2 (hV a (by simp)) (hV b (by simp)) (hK a (by simp)) (hK b (by simp))
      refine this.eq (congrArg evR ?_)
      rw [evalE, evalEs_map]; simp [hd]
  rw [if_neg k5] at ha1
  by_cases k6 : k = 6
  · rw [if_pos k6] at ha1
    subst k6
    have hl : 2 ≤ kids.length := by simp at ha1; omega
    match kids, hl with
    | kid :: kids, _ =>
      have := rcome_in op v nm kid kids _ hb hK
      refine this.eq (congrArg evR ?_)
      rw [evalE, evalEs_map]; simp
  rw [if_neg k6] at ha1
  by_cases k7 : k = 7
  · rw [if_pos k7] at ha1
    subst k7
    have hl : kids ≠ [] := fun h => by subst h; simp [callOk] at ha1
    match kids, hl with
    | kid :: kids, _ =>
      have := rcome_call op v nm kid kids _ hb (fun e _ => zr_eval e) (hV kid (by simp)) hK
      refine this.eq (congrArg evR ?_)
      rw [evalE, evalEs_map]; simp
    | [], h => exact absurd rfl h
  rw [if_neg k7] at ha1
  by_cases k8 : k = 8
  · rw [if_pos k8] at ha1
    have : 0 ≤ op ∧ op < 6 := by simp [bare] at ha1; omega
    exact rcome_leaf hr' hp' k op v nm kids (.inr (.inr (.inl ⟨k8, this.1⟩))) (by unfold in64; omega)
  rw [if_neg k8] at ha1
  cases ha1
theorem rEval_is {row ps : List Val} (hr : ∀ v ∈ row, okV v) (hp : ∀ v ∈ ps, okV v) (hr' : row.length ≤ Big) (hp' : ps.length ≤ Big) (e : Ex) (ho : okE e) (hi : inE e) (hn : nodes e ≤ Lim) : Is Tryz.prog 8 [.g (eE e), .c (.sl 3 (row.map eV)), .c (.sl 3 (ps.map eV))] (evR (evalTop row ps e)) := by
  have h1 := rcheck_is e ho hn true
  have h2 := rcome_is hr hp hr' hp' e ho hi
  have h3 : checkE true e = 0 → allE (rightE true) e = true := fun h => by
    unfold checkE at h
    split at h
    · cases h
    · split at h
      · assumption
      · cases h
  unfold evalTop
  generalize hc : checkE true e = c at h1 h3
  cases e
  refine Is.of TP Tryz.func8 rfl rfl (Nat.le_of_ble_eq_true rfl) fun st => Pw.of TP [] ?_
  conv => whnf
  intro id hid
  conv => whnf
  refine Is.callI h1 fun c' hc' => ?_
  subst hc'
  conv => whnf
  refine ⟨fun h => ?_, fun h => ?_⟩ <;> conv => whnf
  · repeat' (first | (apply Exists.intro; apply And.intro; (first | ((with_reducible (repeat (refine Eq.trans (upd_ne _ ?_) ?_; (first | assumption | (apply Ne.symm; assumption))))); first | exact upd_same _ _ _ | assumption) | ((repeat (refine Eq.trans (upd_ne _ ?_) ?_; (first | assumption | (apply Ne.symm; assumption)))); first | exact upd_same _ _ _ | assumption)); refine ⟨Nat.le_of_ble_eq_true rfl, ?_⟩; conv => whnf) | (apply Exists.intro; apply And.intro; (first | ((with_reducible (repeat (refine Eq.trans (upd_ne _ ?_) ?_; (first | assumption | (apply Ne.symm; assumption))))); first | exact upd_same _ _ _ | assumption) | ((repeat (refine Eq.trans (upd_ne _ ?_) ?_; (first | assumption | (apply Ne.symm; assumption)))); first | exact upd_same _ _ _ | assumption)); conv => whnf))
    refine Fin.ev (v := zV) rfl ?_ (by (first | (with_reducible (iterate 24 (try any_goals (first | exact Le.refl _ | assumption | apply Le.up2))); done) | (iterate 24 (try any_goals (first | exact Le.refl _ | assumption | apply Le.up2)))))
    rw [if_pos (by omega)]
  · have hc0 : c = 0 := by omega
    refine Is.callV (h2 (h3 hc0)) fun y m hym => ?_
    conv => whnf
    repeat' (first | (apply Exists.intro; apply And.intro; (first | ((with_reducible (repeat (refine Eq.trans (upd_ne _ ?_) ?_; (first | assumption | (apply Ne.symm; assumption))))); first | exact upd_same _ _ _ | assumption) | ((repeat (refine Eq.trans (upd_ne _ ?_) ?_; (first | assumption | (apply Ne.symm; assumption)))); first | exact upd_same _ _ _ | assumption)); refine ⟨Nat.le_of_ble_eq_true rfl, ?_⟩; conv => whnf) | (apply Exists.intro; apply And.intro; (first | ((with_reducible (repeat (refine Eq.trans (upd_ne _ ?_) ?_; (first | assumption | (apply Ne.symm; assumption))))); first | exact upd_same _ _ _ | assumption) | ((repeat (refine Eq.trans (upd_ne _ ?_) ?_; (first | assumption | (apply Ne.symm; assumption)))); first | exact upd_same _ _ _ | assumption)); conv => whnf))
    refine Fin.ev (v := y) rfl ?_ (by (first | (with_reducible (iterate 24 (try any_goals (first | exact Le.refl _ | assumption | apply Le.up2))); done) | (iterate 24 (try any_goals (first | exact Le.refl _ | assumption | apply Le.up2)))))
    rw [if_neg (by omega), hym]
/-- Holds -/
def holdsP (p : Val × Int) : Bool × Int := if p.2 ≠ 0 then (false, p.2) else (decide ((tof p.1).1 = 1), (tof p.1).2)
def bfR (p : Bool × Int) : AV := .t [vB p.1, vI .i64 p.2]
theorem Holds_is {p : Val × Int} {k op : Int} {v : Val} {nm : ByteArray} {kids : List Ex} {x y : AV} (h : Is Tryz.prog 7 [.g (eE (.mk k op v nm kids)), x, y] (evR p)) : Is Tryz.prog 9 [.g (eE (.mk k op v nm kids)), x, y] (bfR (holdsP p)) := by
  refine Is.of TP Tryz.func9 rfl rfl (Nat.le_of_ble_eq_true rfl) fun st => Pw.of TP [] ?_
  conv => whnf
  refine Is.callV h fun a f hp => ?_
  subst hp
  conv => whnf
  repeat' (first | (refine ⟨fun h => ?_, fun h => ?_⟩ <;> conv => whnf) | (refine Is.callN (tof_is a) fun t g ht => ?_; conv => whnf) | (apply Exists.intro; apply And.intro; (first | ((with_reducible (repeat (refine Eq.trans (upd_ne _ ?_) ?_; (first | assumption | (apply Ne.symm; assumption))))); first | exact upd_same _ _ _ | assumption) | ((repeat (refine Eq.trans (upd_ne _ ?_) ?_; (first | assumption | (apply Ne.symm; assumption)))); first | exact upd_same _ _ _ | assumption)); refine ⟨Nat.le_of_ble_eq_true rfl, ?_⟩; conv => whnf) | (apply Exists.intro; apply And.intro; (first | ((with_reducible (repeat (refine Eq.trans (upd_ne _ ?_) ?_; (first | assumption | (apply Ne.symm; assumption))))); first | exact upd_same _ _ _ | assumption) | ((repeat (refine Eq.trans (upd_ne _ ?_) ?_; (first | assumption | (apply Ne.symm; assumption)))); first | exact upd_same _ _ _ | assumption)); conv => whnf))
  · refine Fin.old (congrArg bfR (a₁ := (false, f)) ?_) (by (first | (with_reducible (iterate 24 (try any_goals (first | exact Le.refl _ | assumption | apply Le.up2))); done) | (iterate 24 (try any_goals (first | exact Le.refl _ | assumption | apply Le.up2)))))
    unfold holdsP; rw [if_pos h]
  · refine Fin.old (congrArg bfR (a₁ := (true, g)) ?_) (by (first | (with_reducible (iterate 24 (try any_goals (first | exact Le.refl _ | assumption | apply Le.up2))); done) | (iterate 24 (try any_goals (first | exact Le.refl _ | assumption | apply Le.up2)))))
    unfold holdsP; rw [if_neg (by assumption), ht]; simp [h]
  · refine Fin.old (congrArg bfR (a₁ := (false, g)) ?_) (by (first | (with_reducible (iterate 24 (try any_goals (first | exact Le.refl _ | assumption | apply Le.up2))); done) | (iterate 24 (try any_goals (first | exact Le.refl _ | assumption | apply Le.up2)))))
    unfold holdsP; rw [if_neg (by assumption), ht]; simp [h]
theorem rHolds_is {p : Val × Int} {k op : Int} {v : Val} {nm : ByteArray} {kids : List Ex} {x y : AV} (h : Is Tryz.prog 8 [.g (eE (.mk k op v nm kids)), x, y] (evR p)) : Is Tryz.prog 10 [.g (eE (.mk k op v nm kids)), x, y] (bfR (holdsP p)) := by
  refine Is.of TP Tryz.func10 rfl rfl (Nat.le_of_ble_eq_true rfl) fun st => Pw.of TP [] ?_
  conv => whnf
  refine Is.callV h fun a f hp => ?_
  subst hp
  conv => whnf
  repeat' (first | (refine ⟨fun h => ?_, fun h => ?_⟩ <;> conv => whnf) | (refine Is.callN (rof_is a) fun t g ht => ?_; conv => whnf) | (apply Exists.intro; apply And.intro; (first | ((with_reducible (repeat (refine Eq.trans (upd_ne _ ?_) ?_; (first | assumption | (apply Ne.symm; assumption))))); first | exact upd_same _ _ _ | assumption) | ((repeat (refine Eq.trans (upd_ne _ ?_) ?_; (first | assumption | (apply Ne.symm; assumption)))); first | exact upd_same _ _ _ | assumption)); refine ⟨Nat.le_of_ble_eq_true rfl, ?_⟩; conv => whnf) | (apply Exists.intro; apply And.intro; (first | ((with_reducible (repeat (refine Eq.trans (upd_ne _ ?_) ?_; (first | assumption | (apply Ne.symm; assumption))))); first | exact upd_same _ _ _ | assumption) | ((repeat (refine Eq.trans (upd_ne _ ?_) ?_; (first | assumption | (apply Ne.symm; assumption)))); first | exact upd_same _ _ _ | assumption)); conv => whnf))
  · refine Fin.old (congrArg bfR (a₁ := (false, f)) ?_) (by (first | (with_reducible (iterate 24 (try any_goals (first | exact Le.refl _ | assumption | apply Le.up2))); done) | (iterate 24 (try any_goals (first | exact Le.refl _ | assumption | apply Le.up2)))))
    unfold holdsP; rw [if_pos h]
  · refine Fin.old (congrArg bfR (a₁ := (true, g)) ?_) (by (first | (with_reducible (iterate 24 (try any_goals (first | exact Le.refl _ | assumption | apply Le.up2))); done) | (iterate 24 (try any_goals (first | exact Le.refl _ | assumption | apply Le.up2)))))
    unfold holdsP; rw [if_neg (by assumption), ht]; simp [h]
  · refine Fin.old (congrArg bfR (a₁ := (false, g)) ?_) (by (first | (with_reducible (iterate 24 (try any_goals (first | exact Le.refl _ | assumption | apply Le.up2))); done) | (iterate 24 (try any_goals (first | exact Le.refl _ | assumption | apply Le.up2)))))
    unfold holdsP; rw [if_neg (by assumption), ht]; simp [h]
end Go.Proofs.YtbmgenifdlgbmaaGreat.D
namespace Go.Proofs.YtbmgenifdlgbmaaGreat.D
set_option linter.unusedVariables false
set_option linter.unusedSimpArgs false
open Go Go.Proofs.YtbmgenifdlgbmaaGreat.D.Pm
set_option maxRecDepth 4000
theorem few_ok {e : Ex} {n : Int} (h : fewE n e = true) : okE e ∧ (nodes e : Int) ≤ n := by
  unfold fewE at h
  cases hc : cnt e n with
  | none => rw [hc] at h; cases h
  | some m =>
    obtain ⟨h1, h2, h3⟩ := cnt_ok e n m hc
    exact ⟨h1, by omega⟩
theorem okV_of {l : List Val} (h : wfVs l) (hf : fewV l = true) : (∀ v ∈ l, okV v) ∧ l.length ≤ Big := by
  obtain ⟨h1, h2⟩ := fewV_of hf
  refine ⟨fun v hv => ?_, by unfold Big; omega⟩
  have := h2 v hv
  exact ⟨in64_of (h.2 v hv).2.1, by unfold Big; omega⟩
theorem evalComes_law (e : Ex) (row ps : List Val) (we : wfE e) (wr : wfVs row) (wp : wfVs ps) : Is Tryz.prog 3 [.g (eE e), .c (.sl 3 (row.map eV)), .c (.sl 3 (ps.map eV))] (vB true) := by
  have c1 := few_v [row, ps] (Nat.le_of_ble_eq_true rfl)
  have hps : [row, ps].all fewV = (fewV row && fewV ps) := by simp
  rw [hps] at c1
  have c2 := few_is e 60 (by decide)
  by_cases hf : (fewV row && fewV ps) = true ∧ fewE 60 e = true
  · obtain ⟨hf1, hf2⟩ := hf
    rw [hf1] at c1
    rw [hf2] at c2
    rw [Bool.and_eq_true] at hf1
    obtain ⟨ok, hn⟩ := few_ok hf2
    obtain ⟨okp, lp⟩ := okV_of wp hf1.2
    obtain ⟨okr, lr⟩ := okV_of wr hf1.1
    have hi := inE_of we
    have c3 := Eval_is (row := row) (ps := ps) okr okp e ok hi
    have c4 := rEval_is (row := row) (ps := ps) okr okp lr lp e ok hi (by unfold Lim; omega)
    generalize evalTop row ps e = p at c3 c4
    clear hi ok hn hf1 hf2
    cases e
    have c5 := Holds_is c3
    have c6 := rHolds_is c4
    generalize holdsP p = q at c5 c6
    obtain ⟨v, f⟩ := p
    obtain ⟨is, g⟩ := q
    refine Is.of TP Tryz.func3 rfl rfl (Nat.le_of_ble_eq_true rfl) fun st => Pw.of TP [] ?_
    conv => whnf
    refine Is.call c1 ?_
    conv => whnf
    refine Is.call c2 ?_
    conv => whnf
    refine Is.call c3 ?_
    conv => whnf
    refine Is.call c4 ?_
    conv => whnf
    refine Is.call c5 ?_
    conv => whnf
    refine Is.call c6 ?_
    conv => whnf
    refine ⟨fun h => ?_, fun h => ?_⟩ <;> conv => whnf
    · refine ⟨fun h => ?_, fun h => ?_⟩ <;> conv => whnf
      · cases is <;> conv => whnf
        · refine ⟨fun h => ?_, fun h => ?_⟩ <;> conv => whnf
          · refine works_is.call ?_
            conv => whnf
            exact Fin.old rfl (.refl _)
          · exact absurd rfl h
        · refine ⟨fun h => ?_, fun h => ?_⟩ <;> conv => whnf
          · refine works_is.call ?_
            conv => whnf
            exact Fin.old rfl (.refl _)
          · exact absurd rfl h
      · exact absurd rfl h
    · exact absurd (by simp) h
  · generalize (fewV row && fewV ps) = b1 at c1 hf
    generalize fewE 60 e = b2 at c2 hf
    cases e
    refine Is.of TP Tryz.func3 rfl rfl (Nat.le_of_ble_eq_true rfl) fun st => Pw.of TP [] ?_
    conv => whnf
    refine Is.callB c1 fun b hb => ?_
    subst hb
    cases b1 <;> conv => whnf
    · refine works_is.call ?_
      conv => whnf
      exact Fin.old rfl (.refl _)
    refine Is.callB c2 fun b hb => ?_
    subst hb
    cases b2 <;> conv => whnf
    · refine works_is.call ?_
      conv => whnf
      exact Fin.old rfl (.refl _)
    exact absurd ⟨rfl, rfl⟩ hf
end Go.Proofs.YtbmgenifdlgbmaaGreat.D
