/- Words and contracts: a plain machine over the model, and what the functions that a law reaches come to, each for every input that its theorem names. -/
import Derived.Test.YtgbdhakkgnmeoaaGreatK8
namespace Go.Proofs.YtgbdhakkgnmeoaaGreat.D
set_option linter.unusedVariables false
set_option linter.unusedSimpArgs false
open Go Go.Proofs.YtgbdhakkgnmeoaaGreat.D.Pm
set_option maxRecDepth 4000
theorem fewE_ok {e : Ex} (h : fewE 60 e = true) : okE e ∧ nodes e ≤ 60 := by
  unfold fewE at h
  cases hc : cnt e 60 with
  | none => rw [hc] at h; cases h
  | some m =>
    obtain ⟨g1, g2, g3⟩ := cnt_ok e 60 m hc
    exact ⟨g1, by omega⟩
theorem fewSt_ok : ∀ s, fewSt s = true → okSt s := by
  refine St.ind fun k tb nm rl cols cons ns rows wh sets ord lim pr op kids ih h => ?_
  rw [fewSt] at h
  simp only [Bool.and_eq_true, decide_eq_true_eq, List.all_eq_true] at h
  obtain ⟨h1, h2, h3, h4, h6, h7, h8, h5, hc, hr, hs, ho, ht, hk⟩ := h
  have htx : ∀ s ∈ textsB tb nm rl cols cons ns sets, okS s := fun s hs => of_decide_eq_true (ht s hs)
  have hct : ∀ x ∈ cons, ∀ s ∈ textsC x, okS s := fun x hx s hs => htx s (by rw [textsB]; simp only [List.mem_append, List.mem_flatMap]; exact .inl (.inr ⟨x, hx, hs⟩))
  rw [okSt]
  refine ⟨h1, ⟨h2, fun x hx => ?_⟩, h3, ⟨h4, fun r hx => ?_⟩, (fewE_ok h5).1, ⟨h6, fun x hx => (fewE_ok (hs x hx)).1⟩, ⟨h7, fun x hx => (fewE_ok (ho x hx)).1⟩, by omega, ?_⟩
  · have hf := hc x hx
    simp only [fewC, Bool.and_eq_true, decide_eq_true_eq] at hf
    obtain ⟨f1, f2, f3⟩ := hf
    exact ⟨hct x hx _ (by simp [textsC]), ⟨f1, fun s hs => hct x hx s (by simp [textsC, hs])⟩, fewE_ok f3, hct x hx _ (by simp [textsC]), ⟨f2, fun s hs => hct x hx s (by simp [textsC, hs])⟩⟩
  · have hf := hr r hx
    simp only [fewR, Bool.and_eq_true, decide_eq_true_eq, List.all_eq_true] at hf
    exact ⟨hf.1, fun e he => (fewE_ok (hf.2 e he)).1⟩
  · match kids, h8, hk, ih with
    | [], _, _, _ => trivial
    | [x], _, hk, ih =>
      rw [fewKs, Bool.and_eq_true] at hk
      exact ⟨ih x (List.mem_cons_self ..) hk.2, trivial⟩
    | _ :: _ :: _, h8, _, _ => exact absurd h8 (by simp)
def wfL (l : List ByteArray) : Prop := l.length ≤ maxLen ∧ ∀ s ∈ l, s.size ≤ maxLen
def wfCl (c : Cl) : Prop := c.name.size ≤ maxLen ∧ I64 c.typ
def wfCon (x : Con) : Prop := x.name.size ≤ maxLen ∧ I64 x.kind ∧ wfL x.cols ∧ wfE x.check ∧ x.table.size ≤ maxLen ∧ wfL x.refs
def wfSet (x : SetX) : Prop := x.name.size ≤ maxLen ∧ wfE x.e
def wfOrd (x : OrdX) : Prop := wfE x.e
def wfRow (r : List Ex) : Prop := r.length ≤ maxLen ∧ ∀ e ∈ r, wfE e
mutual
def wfSt : St → Prop
  | .mk k tb nm rl cols cons ns rows wh sets ord lim pr op kids => I64 k ∧ tb.size ≤ maxLen ∧ nm.size ≤ maxLen ∧ rl.size ≤ maxLen ∧ (cols.length ≤ maxLen ∧ ∀ c ∈ cols, wfCl c) ∧ (cons.length ≤ maxLen ∧ ∀ c ∈ cons, wfCon c) ∧ wfL ns ∧ (rows.length ≤ maxLen ∧ ∀ r ∈ rows, wfRow r) ∧ wfE wh ∧
      (sets.length ≤ maxLen ∧ ∀ c ∈ sets, wfSet c) ∧ (ord.length ≤ maxLen ∧ ∀ c ∈ ord, wfOrd c) ∧ I64 lim ∧ I64 pr ∧ (kids.length ≤ maxLen ∧ wfSts kids)
def wfSts : List St → Prop
  | [] => True
  | e :: l => wfSt e ∧ wfSts l
end
theorem wfSts_of : ∀ {l : List St}, (∀ e ∈ l, wfSt e) → wfSts l
  | [], _ => trivial
  | e :: l, h => ⟨h e (List.mem_cons_self ..), wfSts_of fun x hx => h x (List.mem_cons_of_mem _ hx)⟩
theorem stmtSame_law (a b : St) (_ : wfSt a) (_ : wfSt b) : Is Tryz.prog 3 [.g (eSt a), .g (eSt b)] (vB true) := by
  have ha := few12_is a
  have hb := few12_is b
  have oa := fewSt_ok a
  have ob := fewSt_ok b
  have s1 := fun h => ssame_is a h b
  have s2 := fun h => rsame12_is a h b
  have s3 : okSt a → Is Tryz.prog 7 [.g (eSt a), .g (eSt a)] (vB true) := fun h => (ssame_is a h a).eq (by rw [eqSt_refl])
  have s4 : okSt b → Is Tryz.prog 7 [.g (eSt b), .g (eSt b)] (vB true) := fun h => (ssame_is b h b).eq (by rw [eqSt_refl])
  generalize eqSt a b = r at s1 s2
  obtain ⟨k1a, k2a, k3a, k4a, k5a, k6a, k7a, k8a, ⟨q1a, q2a, q3a, q4a, q5a⟩, k9a, k10a, k11a, k12a, k13a, k14a⟩ := a
  obtain ⟨k1b, k2b, k3b, k4b, k5b, k6b, k7b, k8b, ⟨q1b, q2b, q3b, q4b, q5b⟩, k9b, k10b, k11b, k12b, k13b, k14b⟩ := b
  refine Is.of TP Tryz.func3 rfl rfl (Nat.le_of_ble_eq_true rfl) fun st => Pw.of TP [] ?_
  conv => whnf
  refine Is.callB ha fun q hq => ?_
  cases q <;> conv => whnf
  · refine works12_is.call ?_
    conv => whnf
    exact Fin.old rfl (.refl _)
  refine Is.callB hb fun q hq2 => ?_
  cases q <;> conv => whnf
  · refine works12_is.call ?_
    conv => whnf
    exact Fin.old rfl (.refl _)
  have oa := oa hq
  have ob := ob hq2
  refine Pw.drw TP mixed (by kernel_rfl) ?_; conv => whnf
  refine Is.drawB (s1 oa) fun q h1 => ?_
  conv => whnf
  refine Is.drawB (s2 oa) fun q' h2 => ?_
  have e : q' = q := by rw [← h1, ← h2]
  subst e
  cases q' <;> conv => whnf
  all_goals refine Is.draw (s3 oa) ?_
  all_goals conv => whnf
  all_goals refine Is.draw (s4 ob) ?_
  all_goals conv => whnf
  all_goals refine Is.draw works12_is ?_
  all_goals conv => whnf
  all_goals exact Fin.old rfl (.refl _)
end Go.Proofs.YtgbdhakkgnmeoaaGreat.D
namespace Go.Proofs.YtgbdhakkgnmeoaaGreat.D
set_option linter.unusedVariables false
set_option linter.unusedSimpArgs false
open Go Go.Proofs.YtgbdhakkgnmeoaaGreat.D.Pm
set_option maxRecDepth 4000
theorem rdS (m : Nat) : Rd Tryz.prog 24 (fun l => [eS l]) wfL m := Rd.sl (sz := 1) (by decide) Tryz.underlying24 (by kernel_rfl) (Rd.str Tryz.underlying9)
theorem rdCl (m : Nat) : Rd Tryz.prog 46 eCl wfCl m :=
  (Rd.st (fun a : ByteArray × Int × Bool => (⟨a.1, a.2.1, a.2.2⟩ : Cl)) (by exact fun a => ⟨rfl, fun h => ⟨h.1, h.2.1⟩⟩) Tryz.underlying46 (by kernel_rfl)
    (RdF.cons (s1 := 1) rfl (by kernel_rfl) (Rd.str Tryz.underlying9) (RdF.cons (s1 := 1) rfl (by kernel_rfl) (Rd.int Tryz.underlying3) (RdF.last (sz := 1) rfl (by kernel_rfl) (Rd.bool Tryz.underlying4))))).less
theorem rdCon (m : Nat) : Rd Tryz.prog 48 eCon wfCon m :=
  (Rd.st (fun a : ByteArray × Int × List ByteArray × Ex × ByteArray × List ByteArray => (⟨a.1, a.2.1, a.2.2.1, a.2.2.2.1, a.2.2.2.2.1, a.2.2.2.2.2⟩ : Con)) (by exact fun a => ⟨rfl, fun h => h⟩) Tryz.underlying48 (by kernel_rfl)
    (RdF.cons (s1 := 1) rfl (by kernel_rfl) (Rd.str Tryz.underlying9) (RdF.cons (s1 := 1) rfl (by kernel_rfl) (Rd.int Tryz.underlying3) (RdF.cons (s1 := 1) rfl (by kernel_rfl) (rdS m) (RdF.cons (s1 := 7) rfl (by kernel_rfl) (rdE m)
      (RdF.cons (s1 := 1) rfl (by kernel_rfl) (Rd.str Tryz.underlying9) (RdF.last (sz := 1) rfl (by kernel_rfl) (rdS m)))))))).less
theorem rdSet (m : Nat) : Rd Tryz.prog 50 eSet wfSet m :=
  (Rd.st (fun a : ByteArray × Ex => (⟨a.1, a.2⟩ : SetX)) (by exact fun a => ⟨rfl, fun h => h⟩) Tryz.underlying50 (by kernel_rfl)
    (RdF.cons (s1 := 1) rfl (by kernel_rfl) (Rd.str Tryz.underlying9) (RdF.last (sz := 7) rfl (by kernel_rfl) (rdE m)))).less
theorem rdOrd (m : Nat) : Rd Tryz.prog 52 eOrd wfOrd m :=
  (Rd.st (fun a : Ex × Bool => (⟨a.1, a.2⟩ : OrdX)) (by exact fun a => ⟨rfl, fun h => h.1⟩) Tryz.underlying52 (by kernel_rfl)
    (RdF.cons (s1 := 7) rfl (by kernel_rfl) (rdE m) (RdF.last (sz := 1) rfl (by kernel_rfl) (Rd.bool Tryz.underlying4)))).less
theorem eRow_eq : eRow = fun l => [AC.sl 7 (l.map eE)] := funext fun l => by rw [eRow, eEs_map]
theorem rdRow (m : Nat) : Rd Tryz.prog 28 eRow wfRow m := by
  rw [eRow_eq]
  exact Rd.sl (sz := 7) (by decide) Tryz.underlying28 (by kernel_rfl) (rdE m)
theorem rdSt : ∀ m, Rd Tryz.prog 35 eSt wfSt m
  | 0 => Rd.zero
  | m + 1 => Rd.st (fun a : Int × ByteArray × ByteArray × ByteArray × List Cl × List Con × List ByteArray × List (List Ex) × Ex × List SetX × List OrdX × Int × Int × Bool × List St =>
        St.mk a.1 a.2.1 a.2.2.1 a.2.2.2.1 a.2.2.2.2.1 a.2.2.2.2.2.1 a.2.2.2.2.2.2.1 a.2.2.2.2.2.2.2.1 a.2.2.2.2.2.2.2.2.1 a.2.2.2.2.2.2.2.2.2.1 a.2.2.2.2.2.2.2.2.2.2.1 a.2.2.2.2.2.2.2.2.2.2.2.1 a.2.2.2.2.2.2.2.2.2.2.2.2.1 a.2.2.2.2.2.2.2.2.2.2.2.2.2.1 a.2.2.2.2.2.2.2.2.2.2.2.2.2.2)
      (by
        exact fun a => ⟨by rw [eSt, eSts_map]; rfl, fun h => by
          obtain ⟨h1, h2, h3, h4, h5, h6, h7, h8, h9, h10, h11, h12, h13, h14, h15⟩ := h
          rw [wfSt]
          exact ⟨h1, h2, h3, h4, h5, h6, h7, h8, h9, h10, h11, h12, h13, h15.1, wfSts_of h15.2⟩⟩) Tryz.underlying35 (by kernel_rfl)
      (RdF.cons (s1 := 1) rfl (by kernel_rfl) (Rd.int Tryz.underlying3) (RdF.cons (s1 := 1) rfl (by kernel_rfl) (Rd.str Tryz.underlying9) (RdF.cons (s1 := 1) rfl (by kernel_rfl) (Rd.str Tryz.underlying9) (RdF.cons (s1 := 1) rfl (by kernel_rfl) (Rd.str Tryz.underlying9)
      (RdF.cons (s1 := 1) rfl (by kernel_rfl) (Rd.sl (sz := 3) (by decide) Tryz.underlying22 (by kernel_rfl) (rdCl m))
      (RdF.cons (s1 := 1) rfl (by kernel_rfl) (Rd.sl (sz := 12) (by decide) Tryz.underlying23 (by kernel_rfl) (rdCon m))
      (RdF.cons (s1 := 1) rfl (by kernel_rfl) (rdS m)
      (RdF.cons (s1 := 1) rfl (by kernel_rfl) (Rd.sl (sz := 1) (by decide) Tryz.underlying25 (by kernel_rfl) (rdRow m))
      (RdF.cons (s1 := 7) rfl (by kernel_rfl) (rdE m)
      (RdF.cons (s1 := 1) rfl (by kernel_rfl) (Rd.sl (sz := 8) (by decide) Tryz.underlying31 (by kernel_rfl) (rdSet m))
      (RdF.cons (s1 := 1) rfl (by kernel_rfl) (Rd.sl (sz := 8) (by decide) Tryz.underlying32 (by kernel_rfl) (rdOrd m))
      (RdF.cons (s1 := 1) rfl (by kernel_rfl) (Rd.int Tryz.underlying3) (RdF.cons (s1 := 1) rfl (by kernel_rfl) (Rd.int Tryz.underlying3) (RdF.cons (s1 := 1) rfl (by kernel_rfl) (Rd.bool Tryz.underlying4)
      (RdF.last (sz := 1) rfl (by kernel_rfl) (Rd.sl (sz := 21) (by decide) Tryz.underlying33 (by kernel_rfl) (rdSt m)))))))))))))))))
end Go.Proofs.YtgbdhakkgnmeoaaGreat.D
