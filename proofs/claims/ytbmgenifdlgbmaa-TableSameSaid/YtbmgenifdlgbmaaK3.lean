/- Words and contracts: a plain machine over the model, and what the functions that a law reaches come to, each for every input that its theorem names. -/
import Derived.Test.YtbmgenifdlgbmaaK2
import Derived.Test.YtbmgenifdlgbmaaV2
import Derived.Test.YtbmgenifdlgbmaaK1
import Derived.Test.YtbmgenifdlgbmaaV3
namespace Go.Proofs.Ytbmgenifdlgbmaa.D
set_option linter.unusedVariables false
set_option linter.unusedSimpArgs false
open Go Go.Proofs.Ytbmgenifdlgbmaa.D.Pm
set_option maxRecDepth 4000
abbrev zS : TI := ⟨.s, 1, 16, [.string ⟨#[]⟩]⟩
def short (s : ByteArray) : Bool := decide (s.size ≤ 100)
def fewC (x : Con) : Bool := decide (x.cols.length ≤ 12) && (decide (x.refs.length ≤ 12) && fewE 60 x.check)
def textsC (x : Con) : List ByteArray := [x.name, x.table] ++ x.cols ++ x.refs
def fewI (x : Ix) : Bool := decide (x.cols.length ≤ 12)
def textsI (x : Ix) : List ByteArray := [x.name] ++ x.cols
def lens12 (t : Tbl) : Bool := decide (t.cols.length ≤ 12) && (decide (t.cons.length ≤ 12) && decide (t.idx.length ≤ 12))
def textsT (t : Tbl) : List ByteArray := [t.name, t.owner] ++ t.cols.map (·.name) ++ t.cons.flatMap textsC ++ t.idx.flatMap textsI
def fewT (t : Tbl) : Bool := lens12 t && (t.cons.all fewC && (t.idx.all fewI && (textsT t).all short))
theorem rowS (a b : ByteArray) : [[AC.v (.string a)], [AC.v (.string b)]] = [a, b].map strC := rfl
theorem fewT_is (t : Tbl) : Is Try.prog 17 [.g (eT t)] (vB (fewT t)) := by
  have el1 : (t.cols.map eCl).length = t.cols.length := List.length_map ..
  have el2 : (t.cons.map eCon).length = t.cons.length := List.length_map ..
  have el3 : (t.idx.map eIx).length = t.idx.length := List.length_map ..
  refine Is.of TP Try.func17 rfl rfl (Nat.le_of_ble_eq_true rfl) fun st => Pw.of TP [1, 1000029] ?_
  conv => whnf
  refine Pw.cut (τ := Unit) [1] (fun _ => []) (fun _ => st) (fun _ => lens12 t = true) (Pw.of TP [] ?_) fun _ hl => Pw.of TP [1000029] ?_
  · conv => whnf
    repeat' (first | (refine ⟨fun h => ?_, fun h => ?_⟩ <;> conv => whnf) | fail)
    all_goals rw [el1] at *
    all_goals first
      | (refine Fin.old (congrArg vB ?_) (.refl _); symm; rw [fewT, show lens12 t = false from ?_]; rfl; simp only [lens12, Bool.and_eq_false_iff, decide_eq_false_iff_not]; omega)
      | (refine ⟨⟨rfl, trivial⟩, (), trivial, .refl _, ?_⟩; simp only [lens12, Bool.and_eq_true, decide_eq_true_eq]; omega)
  have hl' := hl
  simp only [lens12, Bool.and_eq_true, decide_eq_true_eq] at hl'
  obtain ⟨hl1, hl2, hl3⟩ := hl'
  conv => whnf
  intro id hid
  conv => whnf
  refine Pw.rngS (τ := AC × Sto) 4 t.cols.length (big12 hl1) [1] (fun _ y => [(3, .c y.1)]) (fun _ y => y.2) (fun i y => Grow st 1 y.2 y.1 (([t.name, t.owner] ++ (t.cols.take i).map (·.name)).map strC)) (.arr id 0 2, _) rfl ⟨rfl, trivial⟩ (.refl _) ⟨.upd hid, .inr ⟨id, rfl, upd_same _ _ _, hid⟩⟩ fun i y hi hg => Pw.of TP [] ?_
  obtain ⟨a, s⟩ := y
  simp only at hg ⊢
  conv => whnf
  repeat' (first | (refine ⟨fun h => ?_, fun h => ?_⟩ <;> conv => whnf) | fail)
  · have hi' := lt_map ‹_›
    refine ixm hi' ?_
    have hs := map_take2 (f := Cl.name) hi'
    generalize t.cols[i] = c at hs ⊢
    conv => whnf
    refine Grow.app (z := zS) hg (by simp only [List.length_map, List.length_append, List.length_cons, List.length_nil, List.length_set, List.length_replicate, List.length_take]; unfold maxLen; omega) (by simp only [List.length_map, List.length_append, List.length_cons, List.length_nil, List.length_set, List.length_replicate, List.length_take]; omega) fun a' st' hg' hk => ?_
    conv => whnf
    exact ⟨hi', rfl, ⟨rfl, trivial⟩, (a', st'), ⟨rfl, trivial⟩, .refl _, by rw [hs, ← List.append_assoc, List.map_append]; exact hg'⟩
  obtain rfl := nlt_map ‹_› hi
  rw [List.take_length] at hg
  refine Pw.rngS (τ := AC × Sto) 5 t.cons.length (big12 hl2) [1] (fun _ y => [(3, .c y.1)]) (fun _ y => y.2) (fun i y => Grow st 1 y.2 y.1 (([t.name, t.owner] ++ t.cols.map (·.name) ++ (t.cons.take i).flatMap textsC).map strC) ∧ ((t.cons.take i).flatMap textsC).length ≤ 26 * i ∧ ∀ x ∈ t.cons.take i, fewC x = true) (a, s) rfl ⟨rfl, trivial⟩ (.refl _) ⟨by simpa using hg, by simp, by simp⟩ fun i y hi hx => Pw.of TP [] ?_
  clear hg
  obtain ⟨a, s⟩ := y
  obtain ⟨hg, hlen, hall⟩ := hx
  simp only at hg ⊢
  conv => whnf
  repeat' (first | (refine ⟨fun h => ?_, fun h => ?_⟩ <;> conv => whnf) | fail)
  · have hi' := lt_map ‹_›
    refine ixm hi' ?_
    have hs := flat_take2 (f := textsC) hi'
    have hs2 := take_snoc (Q := fun x => fewC x = true) hi' hall
    have ha := all_at (p := fewC) hi'
    generalize t.cons[i] = c at hs hs2 ha ⊢
    have hf := few_is c.check 60 (by decide)
    have e1 : fewC c = (decide (c.cols.length ≤ 12) && (decide (c.refs.length ≤ 12) && fewE 60 c.check)) := rfl
    have e2 : textsC c = [c.name, c.table] ++ c.cols ++ c.refs := rfl
    rw [e1] at hs2 ha
    rw [e2] at hs
    have hno : (decide (c.cols.length ≤ 12) && (decide (c.refs.length ≤ 12) && fewE 60 c.check)) = false → vB false = vB (fewT t) := fun h => by rw [fewT, ha h]; simp
    clear ha e1 e2
    have el1 : (c.cols.map strC).length = c.cols.length := List.length_map ..
    have el2 : (c.refs.map strC).length = c.refs.length := List.length_map ..
    obtain ⟨nm, kd, cols, ck, tb, refs⟩ := c
    simp only at hf hs hs2 hno el1 el2
    generalize fewE 60 ck = fe at hf hs2 hno
    obtain ⟨k, op, v, n, kids⟩ := ck
    conv => whnf
    refine ⟨fun h1 => ?_, fun h1 => ?_⟩ <;> simp only [List.length_map] at h1 <;> conv => whnf
    · exact Fin.old (hno (by rw [decide_eq_false (by omega)]; rfl)) hg.le
    refine ⟨fun h2 => ?_, fun h2 => ?_⟩ <;> simp only [List.length_map] at h2 <;> conv => whnf
    · exact Fin.old (hno (by rw [decide_eq_false (show ¬ refs.length ≤ 12 by omega)]; simp)) hg.le
    refine Is.callB hf fun b hb => ?_
    cases b <;> conv => whnf
    · exact Fin.old (hno (by rw [hb]; simp)) hg.le
    have hok : (decide (cols.length ≤ 12) && (decide (refs.length ≤ 12) && fe)) = true := by
      rw [hb, decide_eq_true (by omega), decide_eq_true (by omega)]; rfl
    have h1' : cols.length ≤ 12 := by omega
    have h2' : refs.length ≤ 12 := by omega
    refine Grow.app (z := zS) hg (by simp only [List.length_map, List.length_append, List.length_cons, List.length_nil, List.length_set, List.length_replicate, List.length_take]; unfold maxLen; omega) (by simp only [List.length_map, List.length_append, List.length_cons, List.length_nil, List.length_set, List.length_replicate, List.length_take]; omega) fun a2 st2 hg2 hk2 => ?_
    conv => whnf
    refine Grow.app (z := zS) hg2 (by simp only [List.length_map, List.length_append, List.length_cons, List.length_nil, List.length_set, List.length_replicate, List.length_take]; unfold maxLen; omega) (by simp only [List.length_map, List.length_append, List.length_cons, List.length_nil, List.length_set, List.length_replicate, List.length_take]; omega) fun a3 st3 hg3 hk3 => ?_
    conv => whnf
    refine Grow.app (z := zS) hg3 (by simp only [List.length_map, List.length_append, List.length_cons, List.length_nil, List.length_set, List.length_replicate, List.length_take]; unfold maxLen; omega) (by simp only [List.length_map, List.length_append, List.length_cons, List.length_nil, List.length_set, List.length_replicate, List.length_take]; omega) fun a4 st4 hg4 hk4 => ?_
    conv => whnf
    refine ⟨hi', rfl, ⟨rfl, trivial⟩, (a4, st4), ⟨rfl, trivial⟩, .refl _, ?_, ?_, hs2 hok⟩
    · rw [hs]
      simp only [← List.append_assoc]
      rw [List.map_append, List.map_append, List.map_append]
      exact hg4
    · rw [hs]; simp only [List.length_append, List.length_cons, List.length_nil]; omega
  obtain rfl := nlt_map ‹_› hi
  rw [List.take_length] at hg hlen hall
  have hcons : t.cons.all fewC = true := all_take hall
  refine Pw.rngS (τ := AC × Sto) 7 t.idx.length (big12 hl3) [1] (fun _ y => [(3, .c y.1)]) (fun _ y => y.2) (fun i y => Grow st 1 y.2 y.1 (([t.name, t.owner] ++ t.cols.map (·.name) ++ t.cons.flatMap textsC ++ (t.idx.take i).flatMap textsI).map strC) ∧ ((t.idx.take i).flatMap textsI).length ≤ 13 * i ∧ ∀ x ∈ t.idx.take i, fewI x = true) (a, s) rfl ⟨rfl, trivial⟩ (.refl _) ⟨by simpa using hg, by simp, by simp⟩ fun i y hi hx => Pw.of TP [] ?_
  clear hg hall
  obtain ⟨a, s⟩ := y
  obtain ⟨hg, hlen2, hall⟩ := hx
  simp only at hg ⊢
  conv => whnf
  repeat' (first | (refine ⟨fun h => ?_, fun h => ?_⟩ <;> conv => whnf) | fail)
  · have hi' := lt_map ‹_›
    have k2 := fun F => ixm (f := eIx) (F := F) hi'
    refine k2 _ ?_
    have hs := flat_take2 (f := textsI) hi'
    have hs2 := take_snoc (Q := fun x => fewI x = true) hi' hall
    have ha := all_at (p := fewI) hi'
    generalize t.idx[i] = c at hs hs2 ha k2 ⊢
    have e1 : fewI c = decide (c.cols.length ≤ 12) := rfl
    have e2 : textsI c = [c.name] ++ c.cols := rfl
    rw [e1] at hs2 ha
    rw [e2] at hs
    have hno : decide (c.cols.length ≤ 12) = false → vB false = vB (fewT t) := fun h => by rw [fewT, ha h]; simp
    clear ha e1 e2
    have el1 : (c.cols.map strC).length = c.cols.length := List.length_map ..
    conv => whnf
    refine ⟨fun h1 => ?_, fun h1 => ?_⟩ <;> conv => whnf
    · exact Fin.old (hno (decide_eq_false (by omega))) hg.le
    refine k2 _ ?_
    conv => whnf
    have h1' : c.cols.length ≤ 12 := by omega
    refine Grow.app (z := zS) hg (by simp only [List.length_map, List.length_append, List.length_cons, List.length_nil, List.length_set, List.length_replicate, List.length_take]; unfold maxLen; omega) (by simp only [List.length_map, List.length_append, List.length_cons, List.length_nil, List.length_set, List.length_replicate, List.length_take]; omega) fun a2 st2 hg2 hk2 => ?_
    conv => whnf
    refine k2 _ ?_
    conv => whnf
    refine Grow.app (z := zS) hg2 (by simp only [List.length_map, List.length_append, List.length_cons, List.length_nil, List.length_set, List.length_replicate, List.length_take]; unfold maxLen; omega) (by simp only [List.length_map, List.length_append, List.length_cons, List.length_nil, List.length_set, List.length_replicate, List.length_take]; omega) fun a3 st3 hg3 hk3 => ?_
    conv => whnf
    refine ⟨hi', rfl, ⟨rfl, trivial⟩, (a3, st3), ⟨rfl, trivial⟩, .refl _, ?_, ?_, hs2 (decide_eq_true h1')⟩
    · rw [hs]
      simp only [← List.append_assoc]
      rw [List.map_append, List.map_append]
      exact hg3
    · rw [hs]; simp only [List.length_append, List.length_cons, List.length_nil]; omega
  obtain rfl := nlt_map ‹_› hi
  rw [List.take_length] at hg hlen2 hall
  have hidx : t.idx.all fewI = true := all_take hall
  have hfin : fewT t = (textsT t).all short := by rw [fewT, hl, hcons, hidx]; rfl
  rw [hfin]
  have hg' : Grow st 1 s a ((textsT t).map strC) := hg
  have hlt : (textsT t).length ≤ 600 := by rw [textsT]; simp only [List.length_append, List.length_cons, List.length_nil, List.length_map]; omega
  clear hg hall
  generalize textsT t = tx at hg' hlt ⊢
  refine Pw.rng (τ := Unit) 8 tx.length (by unfold Big; omega) [3] (fun _ => []) (fun i _ => ∀ x ∈ tx.take i, short x = true) () rfl ⟨⟩ (by simp) fun i _ hi hx => ?_
  rcases hg'.2 with ⟨rfl, h0⟩ | ⟨id, rfl, hid, h0⟩
  · have : tx = [] := by simpa using h0
    subst this
    refine Pw.of TP [] ?_
    conv => whnf
    repeat' (first | (refine ⟨fun h => ?_, fun h => ?_⟩ <;> conv => whnf) | fail)
    · exfalso; omega
    · exact Fin.old rfl hg'.le
  · refine Pw.of TP [] ?_
    conv => whnf
    repeat' (first | (refine ⟨fun h => ?_, fun h => ?_⟩ <;> conv => whnf) | fail)
    · have hi' := lt_map ‹_›
      have hs := take_snoc (Q := fun x => short x = true) hi' hx
      have ha := all_at (p := short) hi'
      refine ⟨by omega, by omega, ⟨_, hid⟩, ?_⟩
      conv => whnf
      refine ⟨1, _, strC tx[i], hid, by simp [hi'], ?_⟩
      conv => whnf
      refine ⟨fun h1 => ?_, fun h1 => ?_⟩ <;> conv => whnf
      · exact Fin.old (congrArg vB (ha (decide_eq_false (by omega))).symm) hg'.le
      · exact ⟨hi', rfl, ⟨rfl, trivial⟩, (), trivial, .refl _, hs (decide_eq_true (by omega))⟩
    · obtain rfl := nlt_map ‹_› hi
      exact Fin.old (congrArg vB (all_take (by simpa using hx)).symm) hg'.le
theorem fewT_ok (t : Tbl) (h : fewT t = true) : okT t := by
  simp only [fewT, lens12, Bool.and_eq_true, decide_eq_true_eq, List.all_eq_true] at h
  obtain ⟨⟨h1, h2, h3⟩, h4, h5, h6⟩ := h
  have ht : ∀ s ∈ textsT t, okS s := fun s hs => of_decide_eq_true (h6 s hs)
  have hc : ∀ x ∈ t.cons, ∀ s ∈ textsC x, okS s := fun x hx s hs => ht s (by rw [textsT]; simp only [List.mem_append, List.mem_flatMap]; exact .inl (.inr ⟨x, hx, hs⟩))
  have hi : ∀ x ∈ t.idx, ∀ s ∈ textsI x, okS s := fun x hx s hs => ht s (by rw [textsT]; simp only [List.mem_append, List.mem_flatMap]; exact .inr ⟨x, hx, hs⟩)
  refine ⟨ht _ (by simp [textsT]), ht _ (by simp [textsT]), ⟨h1, fun c hcc => ht _ (by simp only [textsT, List.mem_append, List.mem_map]; exact .inl (.inl (.inr ⟨c, hcc, rfl⟩)))⟩, ⟨h2, fun x hx => ?_⟩, ⟨h3, fun x hx => ?_⟩⟩
  · have hf := h4 x hx
    simp only [fewC, Bool.and_eq_true, decide_eq_true_eq] at hf
    obtain ⟨f1, f2, f3⟩ := hf
    obtain ⟨m, hm⟩ := Option.isSome_iff_exists.1 f3
    obtain ⟨g1, g2, g3⟩ := cnt_ok _ _ _ hm
    exact ⟨hc x hx _ (by simp [textsC]), ⟨f1, fun s hs => hc x hx s (by simp [textsC, hs])⟩, ⟨g1, by omega⟩, hc x hx _ (by simp [textsC]), ⟨f2, fun s hs => hc x hx s (by simp [textsC, hs])⟩⟩
  · exact ⟨hi x hx _ (by simp [textsI]), of_decide_eq_true (h5 x hx), fun s hs => hi x hx s (by simp [textsI, hs])⟩
end Go.Proofs.Ytbmgenifdlgbmaa.D
namespace Go.Proofs.Ytbmgenifdlgbmaa.D
set_option linter.unusedVariables false
set_option linter.unusedSimpArgs false
open Go Go.Proofs.Ytbmgenifdlgbmaa.D.Pm
set_option maxRecDepth 4000
def I64 (n : Int) : Prop := (Lit.int .i64 n).wf = true
def wfV (v : Val) : Prop := I64 v.k ∧ I64 v.n ∧ v.s.size ≤ maxLen
mutual
def wfE : Ex → Prop
  | .mk k op v n kids => I64 k ∧ I64 op ∧ wfV v ∧ n.size ≤ maxLen ∧ kids.length ≤ maxLen ∧ wfEs kids
def wfEs : List Ex → Prop
  | [] => True
  | e :: l => wfE e ∧ wfEs l
end
theorem wfEs_of : ∀ {l : List Ex}, (∀ e ∈ l, wfE e) → wfEs l
  | [], _ => trivial
  | e :: l, h => ⟨h e (List.mem_cons_self ..), wfEs_of fun x hx => h x (List.mem_cons_of_mem _ hx)⟩
theorem wfEs_all : ∀ {l : List Ex}, wfEs l → ∀ e ∈ l, wfE e
  | e :: l, h, x, hx => by
    rcases List.mem_cons.1 hx with rfl | hx
    · exact h.1
    · exact wfEs_all h.2 x hx
def wfL (l : List ByteArray) : Prop := l.length ≤ maxLen ∧ ∀ s ∈ l, s.size ≤ maxLen
def wfCl (c : Cl) : Prop := c.name.size ≤ maxLen ∧ I64 c.typ
def wfCon (x : Con) : Prop := x.name.size ≤ maxLen ∧ I64 x.kind ∧ wfL x.cols ∧ wfE x.check ∧ x.table.size ≤ maxLen ∧ wfL x.refs
def wfIx (x : Ix) : Prop := x.name.size ≤ maxLen ∧ wfL x.cols
def wfT (t : Tbl) : Prop := t.name.size ≤ maxLen ∧ t.owner.size ≤ maxLen ∧ I64 t.version ∧ (t.cols.length ≤ maxLen ∧ ∀ c ∈ t.cols, wfCl c) ∧ (t.cons.length ≤ maxLen ∧ ∀ c ∈ t.cons, wfCon c) ∧ (t.idx.length ≤ maxLen ∧ ∀ c ∈ t.idx, wfIx c)
theorem rdV (m : Nat) : Rd Try.prog 23 eV wfV m :=
  (Rd.st (fun a : Int × Int × ByteArray => (⟨a.1, a.2.1, a.2.2⟩ : Val)) (by exact fun a => ⟨rfl, fun h => h⟩) Try.underlying23 (by kernel_rfl)
    (RdF.cons (s1 := 1) rfl (by kernel_rfl) (Rd.int Try.underlying3) (RdF.cons (s1 := 1) rfl (by kernel_rfl) (Rd.int Try.underlying3) (RdF.last (sz := 1) rfl (by kernel_rfl) (Rd.str Try.underlying9))))).less
theorem rdE : ∀ m, Rd Try.prog 26 eE wfE m
  | 0 => Rd.zero
  | m + 1 => Rd.st (fun a : Int × Int × Val × ByteArray × List Ex => Ex.mk a.1 a.2.1 a.2.2.1 a.2.2.2.1 a.2.2.2.2) (by exact fun a => ⟨by rw [eE, eEs_map]; rfl, fun h => ⟨h.1, h.2.1, h.2.2.1, h.2.2.2.1, h.2.2.2.2.1, wfEs_of h.2.2.2.2.2⟩⟩) Try.underlying26 (by kernel_rfl)
      (RdF.cons (s1 := 1) rfl (by kernel_rfl) (Rd.int Try.underlying3) (RdF.cons (s1 := 1) rfl (by kernel_rfl) (Rd.int Try.underlying3) (RdF.cons (s1 := 3) rfl (by kernel_rfl) (rdV m) (RdF.cons (s1 := 1) rfl (by kernel_rfl) (Rd.str Try.underlying9)
        (RdF.last (sz := 1) rfl (by kernel_rfl) (Rd.sl (sz := 7) (by decide) Try.underlying24 (by kernel_rfl) (rdE m)))))))
theorem rdS (m : Nat) : Rd Try.prog 43 (fun l => [eS l]) wfL m := Rd.sl (sz := 1) (by decide) Try.underlying43 (by kernel_rfl) (Rd.str Try.underlying9)
theorem rdCl (m : Nat) : Rd Try.prog 58 eCl wfCl m :=
  (Rd.st (fun a : ByteArray × Int × Bool => (⟨a.1, a.2.1, a.2.2⟩ : Cl)) (by exact fun a => ⟨rfl, fun h => ⟨h.1, h.2.1⟩⟩) Try.underlying58 (by kernel_rfl)
    (RdF.cons (s1 := 1) rfl (by kernel_rfl) (Rd.str Try.underlying9) (RdF.cons (s1 := 1) rfl (by kernel_rfl) (Rd.int Try.underlying3) (RdF.last (sz := 1) rfl (by kernel_rfl) (Rd.bool Try.underlying4))))).less
theorem rdIx (m : Nat) : Rd Try.prog 71 eIx wfIx m :=
  (Rd.st (fun a : ByteArray × List ByteArray => (⟨a.1, a.2⟩ : Ix)) (by exact fun a => ⟨rfl, fun h => h⟩) Try.underlying71 (by kernel_rfl)
    (RdF.cons (s1 := 1) rfl (by kernel_rfl) (Rd.str Try.underlying9) (RdF.last (sz := 1) rfl (by kernel_rfl) (rdS m)))).less
theorem rdCon (m : Nat) : Rd Try.prog 56 eCon wfCon m :=
  (Rd.st (fun a : ByteArray × Int × List ByteArray × Ex × ByteArray × List ByteArray => (⟨a.1, a.2.1, a.2.2.1, a.2.2.2.1, a.2.2.2.2.1, a.2.2.2.2.2⟩ : Con)) (by exact fun a => ⟨rfl, fun h => h⟩) Try.underlying56 (by kernel_rfl)
    (RdF.cons (s1 := 1) rfl (by kernel_rfl) (Rd.str Try.underlying9) (RdF.cons (s1 := 1) rfl (by kernel_rfl) (Rd.int Try.underlying3) (RdF.cons (s1 := 1) rfl (by kernel_rfl) (rdS m) (RdF.cons (s1 := 7) rfl (by kernel_rfl) (rdE m)
      (RdF.cons (s1 := 1) rfl (by kernel_rfl) (Rd.str Try.underlying9) (RdF.last (sz := 1) rfl (by kernel_rfl) (rdS m)))))))).less
theorem rdT (m : Nat) : Rd Try.prog 39 eT wfT m :=
  (Rd.st (fun a : ByteArray × ByteArray × Int × List Cl × List Con × List Ix => (⟨a.1, a.2.1, a.2.2.1, a.2.2.2.1, a.2.2.2.2.1, a.2.2.2.2.2⟩ : Tbl)) (by exact fun a => ⟨rfl, fun h => h⟩) Try.underlying39 (by kernel_rfl)
    (RdF.cons (s1 := 1) rfl (by kernel_rfl) (Rd.str Try.underlying9) (RdF.cons (s1 := 1) rfl (by kernel_rfl) (Rd.str Try.underlying9) (RdF.cons (s1 := 1) rfl (by kernel_rfl) (Rd.int Try.underlying3)
      (RdF.cons (s1 := 1) rfl (by kernel_rfl) (Rd.sl (sz := 3) (by decide) Try.underlying35 (by kernel_rfl) (rdCl m))
      (RdF.cons (s1 := 1) rfl (by kernel_rfl) (Rd.sl (sz := 12) (by decide) Try.underlying36 (by kernel_rfl) (rdCon m))
      (RdF.last (sz := 1) rfl (by kernel_rfl) (Rd.sl (sz := 2) (by decide) Try.underlying37 (by kernel_rfl) (rdIx m))))))))).less
end Go.Proofs.Ytbmgenifdlgbmaa.D
namespace Go.Proofs.Ytbmgenifdlgbmaa.D
set_option linter.unusedVariables false
set_option linter.unusedSimpArgs false
open Go Go.Proofs.Ytbmgenifdlgbmaa.D.Pm
set_option maxRecDepth 4000
/-- the kinds of this program's rows, by their lengths -/
def RT0 : RT := fun sz => if sz = 1 then [.S] else if sz = 2 then [.S, .L 1] else if sz = 3 then [.S, .I, .B] else if sz = 7 then [.I, .I, .I, .I, .S, .S, .L 7]
  else if sz = 12 then [.S, .I, .L 1, .I, .I, .I, .I, .S, .S, .L 7, .S, .L 1] else []
theorem nodesL_len : ∀ l : List Ex, l.length ≤ nodesL l
  | [] => Nat.le_refl _
  | e :: l => by rw [nodesL, List.length_cons]; have := nodesL_len l; have : 1 ≤ nodes e := by cases e; rw [nodes]; omega
                 omega
theorem eE_length (e : Ex) : (eE e).length = 7 := by cases e; rfl
theorem clone_does : ∀ e, okE e → nodes e ≤ Lim → ∀ st, Does Try.prog 81 [.g (eE e)] st fun r s => ∃ L xs, r = .g xs ∧ Own RT0 st s L (RT0 7) xs (eE e) := by
  refine Ex.ind fun k op v n kids ih ok hn st => ?_
  rw [nodes] at hn
  have hll := nodesL_len kids
  unfold Lim at hn
  refine Does.of TP Try.func81 rfl rfl (Nat.le_of_ble_eq_true rfl) (Pw.of TP [1000001] ?_)
  conv => whnf
  intro id1 h1
  conv => whnf
  intro id2 h2
  conv => whnf
  refine ⟨_, upd_old h2 (upd_same _ _ _), ?_⟩
  conv => whnf
  obtain ⟨B, hB⟩ : ∃ B, B = upd (upd st id1 (.bx (eE (.mk k op v n kids)))) id2 (.bx [.v (.int .i64 0), .v (.int .i64 0), .v (.int .i64 0), .v (.int .i64 0), .v (.string ⟨#[]⟩), .v (.string ⟨#[]⟩), .v (.slice none 0 0)]) := ⟨_, rfl⟩
  have hne : id1 ≠ id2 := fun e => by subst e; rw [upd_same] at h2; cases h2
  have hle : Le st B := by rw [hB]; exact ((Le.refl st).up h1).up h2
  have b1 : B id1 = some (.bx (eE (.mk k op v n kids))) := by rw [hB]; exact upd_old h2 (upd_same _ _ _)
  have b2 : B id2 = some (.bx [.v (.int .i64 0), .v (.int .i64 0), .v (.int .i64 0), .v (.int .i64 0), .v (.string ⟨#[]⟩), .v (.string ⟨#[]⟩), .v (.slice none 0 0)]) := by rw [hB]; exact upd_same _ _ _
  refine Pw.rngS (τ := AC × Sto) 9 kids.length ok.2.2.1 [1, 2, 7, 8] (fun _ y => [(3, .c y.1)]) (fun _ y => y.2) (fun i y => GrowO RT0 B 7 y.2 y.1 ((kids.take i).map eE)) (.v (.slice none 0 0), B) rfl ⟨rfl, trivial⟩ (by rw [hB]; exact .refl _) (.nil (.refl _)) fun i y hi hg => Pw.of TP [] ?_
  obtain ⟨a, s⟩ := y
  dsimp only at hg
  conv => whnf
  refine ⟨fun h => ?_, fun h => ?_⟩ <;> conv => whnf
  · have hi' := ltE ‹_›
    refine ixE hi' ?_
    have hc := ih kids[i] (List.getElem_mem hi') (okEs_all ok.2.2.2 _ (List.getElem_mem hi')) (Nat.le_trans (nodes_mem (List.getElem_mem hi')) (by unfold Lim; omega)) s
    have hs := map_take2 (f := eE) hi'
    generalize kids[i] = e at hc hs ⊢
    cases e
    conv => whnf
    refine hc.mono fun r s2 h => ?_
    obtain ⟨L', xs, rfl, o⟩ := h
    have hx : xs.length = 7 := o.fz.len
    obtain ⟨x1, x2, x3, x4, x5, x6, x7, rfl⟩ : ∃ a b c d e f g, xs = [a, b, c, d, e, f, g] := by
      match xs, hx with
      | [a, b, c, d, e, f, g], _ => exact ⟨a, b, c, d, e, f, g, rfl⟩
    conv => whnf
    have hl : ((kids.take i).map eE).length = i := by rw [List.length_map, List.length_take]; omega
    refine GrowO.app (z := ⟨.st [(0, 3), (1, 3), (2, 23), (5, 9), (6, 24)], 7, 88, [.int .i64 0, .int .i64 0, .int .i64 0, .int .i64 0, .string ⟨#[]⟩, .string ⟨#[]⟩, .slice none 0 0]⟩) hg o rfl (by rw [hl]; unfold maxLen; omega) (by rw [hl]; show (i + 1) * 88 ≤ _; omega) fun a' s3 hg' hk => ?_
    conv => whnf
    exact ⟨hi', rfl, ⟨rfl, rfl, rfl, rfl, trivial⟩, (a', s3), ⟨rfl, trivial⟩, .refl _, by rw [hs]; exact hg'⟩
  · obtain rfl := nltE ‹_› hi
    rw [List.take_length] at hg
    have hle2 := hg.le
    obtain ⟨L, q1, q2, q3, q4⟩ := hg.done (fun r hr => by obtain ⟨x, _, rfl⟩ := List.mem_map.1 hr; exact eE_length x)
    refine ⟨_, hle2 _ _ b1, Nat.le_of_ble_eq_true rfl, ?_⟩
    conv => whnf
    refine ⟨_, upd_same _ _ _, ?_⟩
    conv => whnf
    refine ⟨_, (upd_ne _ hne.symm).trans (hle2 _ _ b2), Nat.le_of_ble_eq_true rfl, ?_⟩
    conv => whnf
    refine ⟨_, upd_same _ _ _, ?_⟩
    conv => whnf
    have hL1 : ∀ i p, L i = some p → i ≠ id1 ∧ i ≠ id2 := fun i p hi => ⟨(fun e => by subst e; rw [q1 _ _ hi] at b1; cases b1), (fun e => by subst e; rw [q1 _ _ hi] at b2; cases b2)⟩
    have hkp : ∀ (o1 o2 : Ob) i p ob, L i = some p → s i = some ob → upd (upd s id1 o1) id2 o2 i = some ob := fun o1 o2 i p ob hi hs => by
      rw [upd_ne _ (hL1 i p hi).2, upd_ne _ (hL1 i p hi).1]; exact hs
    have h2' : st id2 = none := by rw [upd_ne _ hne.symm] at h2; exact h2
    refine Fin.same rfl (.refl _) ⟨L, _, rfl, ((hle.trans hle2).up2 h1).up2 h2', fun i p hi => hle.none (q1 i p hi), q2.keep (hkp _ _), ?_, ?_⟩
    · rw [← eEs_map] at q3
      exact .cons (.refl _) (.cons (.refl _) (.cons (.refl _) (.cons (.refl _) (.cons (.refl _) (.cons (.refl _) (.cons (Fz.dm (.refl L) (hkp _ _) q3) .nil))))))
    · exact .cons ⟨_, rfl⟩ (.cons ⟨_, rfl⟩ (.cons ⟨_, rfl⟩ (.cons ⟨_, rfl⟩ (.cons ⟨_, rfl⟩ (.cons ⟨_, rfl⟩ (.cons q4 .nil))))))
end Go.Proofs.Ytbmgenifdlgbmaa.D
namespace Go.Proofs.Ytbmgenifdlgbmaa.D
set_option linter.unusedVariables false
set_option linter.unusedSimpArgs false
open Go Go.Proofs.Ytbmgenifdlgbmaa.D.Pm
set_option maxRecDepth 4000
def eqStr (a b : ByteArray) : Bool := decide (a = b)
theorem eqL_str : ∀ (l m : List ByteArray), eqL eqStr l m = decide (l = m)
  | [], [] => by simp [eqL]
  | a :: l, b :: m => by rw [eqL, eqL_str l m, eqStr]; simp
  | [], _ :: _ => by simp [eqL]
  | _ :: _, [] => by simp [eqL]
theorem eqL_refl {α : Type} {f : α → α → Bool} : ∀ {l : List α}, (∀ a ∈ l, f a a = true) → eqL f l l = true
  | [], _ => rfl
  | a :: l, h => by rw [eqL, h a (List.mem_cons_self ..), eqL_refl fun x hx => h x (List.mem_cons_of_mem _ hx)]; rfl
theorem eqE_refl : ∀ e : Ex, eqE e e = true := by
  refine Ex.ind fun k op v n kids ih => ?_
  rw [eqE, eqEs_eq, eqL_refl ih]; simp
theorem eqS_is (l m : List ByteArray) (hl : l.length ≤ Big) : Is Try.prog 84 [.c (.sl 1 (l.map strC)), .c (.sl 1 (m.map strC))] (vB (eqL eqStr l m)) := by
  have e1 : (l.map strC).length = l.length := List.length_map ..
  have e2 : (m.map strC).length = m.length := List.length_map ..
  refine Is.of TP Try.func84 rfl rfl (Nat.le_of_ble_eq_true rfl) fun st => Pw.of TP [] ?_
  conv => whnf
  refine ⟨fun h => ?_, fun h => ?_⟩ <;> conv => whnf
  · (refine Fin.old (congrArg vB ?_) (.refl _); rw [eqL_len (by omega)])
  · have hlm : l.length = m.length := by have := Classical.not_not.1 h; omega
    refine Pw.rng (τ := Unit) 13 l.length hl [0, 1, 12] (fun _ => []) (fun i _ => ∀ (j : Nat), j < i → ∀ (h : j < l.length) (h' : j < m.length), eqStr l[j] m[j] = true) () rfl ⟨⟩ (by intro j h; omega) fun i _ hi hx => Pw.of TP [] ?_
    conv => whnf
    refine ⟨fun h => ?_, fun h => ?_⟩ <;> conv => whnf
    · have hi' := lt_map ‹_›
      have hi2 : i < m.length := by omega
      have k1 := fun F => ixm (f := strC) (l := l) (j := i) (F := F) hi'
      have h1 := eqL_no (f := eqStr) hi' hi2
      have h2 : eqStr l[i] m[i] = true → ∀ (j : Nat), j < i + 1 → ∀ (h : j < l.length) (h' : j < m.length), eqStr l[j] m[j] = true := fun he j hj h h' => by
        by_cases hji : j = i
        · subst hji; exact he
        · exact hx j (by omega) h h'
      have k2 := fun F => ixm (f := strC) (l := m) (j := i) (F := F) hi2
      generalize l[i] = a at k1 h1 h2 ⊢
      generalize m[i] = b at h1 h2 k2
      skip
      skip
      refine Pw.drw TP mixed (by kernel_rfl) ?_; conv => whnf
      refine k1 _ ?_
      conv => whnf
      refine k2 _ ?_
      conv => whnf
      refine ⟨fun (h : ¬ a = b) => ?_, fun (h : ¬ ¬ a = b) => ?_⟩ <;> conv => whnf
      · (refine Fin.old (congrArg vB ?_) (.refl _); rw [h1 (decide_eq_false h)])
      · exact ⟨hi', rfl, ⟨rfl, rfl, rfl, trivial⟩, (), trivial, .refl _, h2 (decide_eq_true (Classical.not_not.1 h))⟩
    · obtain rfl := nlt_map ‹_› hi
      (refine Fin.old (congrArg vB ?_) (.refl _); rw [eqL_all hlm (fun i h h' => hx i h h h')])
def eqCl (c d : Cl) : Bool := decide (c.name = d.name ∧ c.typ = d.typ ∧ c.nn = d.nn)
theorem eqC_is (l m : List Cl) (hl : l.length ≤ Big) : Is Try.prog 87 [.c (.sl 3 (l.map eCl)), .c (.sl 3 (m.map eCl))] (vB (eqL eqCl l m)) := by
  have e1 : (l.map eCl).length = l.length := List.length_map ..
  have e2 : (m.map eCl).length = m.length := List.length_map ..
  refine Is.of TP Try.func87 rfl rfl (Nat.le_of_ble_eq_true rfl) fun st => Pw.of TP [] ?_
  conv => whnf
  refine ⟨fun h => ?_, fun h => ?_⟩ <;> conv => whnf
  · (refine Fin.old (congrArg vB ?_) (.refl _); rw [eqL_len (by omega)])
  · have hlm : l.length = m.length := by have := Classical.not_not.1 h; omega
    refine Pw.rng (τ := Unit) 13 l.length hl [0, 1, 12] (fun _ => []) (fun i _ => ∀ (j : Nat), j < i → ∀ (h : j < l.length) (h' : j < m.length), eqCl l[j] m[j] = true) () rfl ⟨⟩ (by intro j h; omega) fun i _ hi hx => Pw.of TP [] ?_
    conv => whnf
    refine ⟨fun h => ?_, fun h => ?_⟩ <;> conv => whnf
    · have hi' := lt_map ‹_›
      have hi2 : i < m.length := by omega
      have k1 := fun F => ixm (f := eCl) (l := l) (j := i) (F := F) hi'
      have h1 := eqL_no (f := eqCl) hi' hi2
      have h2 : eqCl l[i] m[i] = true → ∀ (j : Nat), j < i + 1 → ∀ (h : j < l.length) (h' : j < m.length), eqCl l[j] m[j] = true := fun he j hj h h' => by
        by_cases hji : j = i
        · subst hji; exact he
        · exact hx j (by omega) h h'
      have k2 := fun F => ixm (f := eCl) (l := m) (j := i) (F := F) hi2
      generalize l[i] = a at k1 h1 h2 ⊢
      generalize m[i] = b at h1 h2 k2
      obtain ⟨na, ya, qa⟩ := a
      obtain ⟨nb, yb, qb⟩ := b
      refine Pw.drw TP mixed (by kernel_rfl) ?_; conv => whnf
      refine k1 _ ?_
      conv => whnf
      refine k2 _ ?_
      conv => whnf
      refine ⟨fun (h : ¬ (na = nb ∧ ya = yb ∧ qa = qb ∧ True)) => ?_, fun (h : ¬ ¬ (na = nb ∧ ya = yb ∧ qa = qb ∧ True)) => ?_⟩ <;> conv => whnf
      · (refine Fin.old (congrArg vB ?_) (.refl _); rw [h1 (decide_eq_false fun q => h ⟨q.1, q.2.1, q.2.2, trivial⟩)])
      · exact ⟨hi', rfl, ⟨rfl, rfl, rfl, trivial⟩, (), trivial, .refl _, h2 (decide_eq_true (by have q := Classical.not_not.1 h; exact ⟨q.1, q.2.1, q.2.2.1⟩))⟩
    · obtain rfl := nlt_map ‹_› hi
      (refine Fin.old (congrArg vB ?_) (.refl _); rw [eqL_all hlm (fun i h h' => hx i h h h')])
theorem eqfCon_is (l m : List Con) (hl : l.length ≤ Big) (g : Nat) (caps : List AC) (f : Con → Con → Bool) (hf : ∀ e ∈ l, ∀ e' ∈ m, Is Try.prog g (.g (eCon e) :: .g (eCon e') :: caps.map .c) (vB (f e e'))) :
    Is Try.prog 88 [.c (.sl 12 (l.map eCon)), .c (.sl 12 (m.map eCon)), .c (.fn g caps)] (vB (eqL f l m)) := by
  have e1 : (l.map eCon).length = l.length := List.length_map ..
  have e2 : (m.map eCon).length = m.length := List.length_map ..
  refine Is.of TP Try.func88 rfl rfl (Nat.le_of_ble_eq_true rfl) fun st => Pw.of TP [] ?_
  conv => whnf
  repeat' (first | (refine ⟨fun h => ?_, fun h => ?_⟩ <;> conv => whnf) | fail)
  · (refine Fin.old (congrArg vB ?_) (.refl _); rw [eqL_len (by omega)])
  · have hlm : l.length = m.length := by have := Classical.not_not.1 ‹_›; omega
    refine Pw.rng (τ := Unit) 17 l.length hl [1, 2, 15, 16] (fun _ => []) (fun i _ => ∀ (j : Nat), j < i → ∀ (h : j < l.length) (h' : j < m.length), f l[j] m[j] = true) () rfl ⟨⟩ (by intro j h; omega) fun i _ hi hx => Pw.of TP [] ?_
    conv => whnf
    repeat' (first | (refine ⟨fun h => ?_, fun h => ?_⟩ <;> conv => whnf) | fail)
    · have hi' := lt_map ‹_›
      have hi2 : i < m.length := by omega
      refine ixm hi' ?_
      have hm := hf l[i] (List.getElem_mem hi') m[i] (List.getElem_mem hi2)
      have h1 := eqL_no (f := f) hi' hi2
      have h2 : f l[i] m[i] = true → ∀ (j : Nat), j < i + 1 → ∀ (h : j < l.length) (h' : j < m.length), f l[j] m[j] = true := fun he j hj h h' => by
        by_cases hji : j = i
        · subst hji; exact he
        · exact hx j (by omega) h h'
      have k2 := fun F => ixm (f := eCon) (l := m) (j := i) (F := F) hi2
      generalize l[i] = a at hm h1 h2 ⊢
      generalize m[i] = b at hm h1 h2 k2
      obtain ⟨na, ya, ca, ⟨ka, oa, va, ma, la⟩, ta, ra⟩ := a
      obtain ⟨nb, yb, cb, ⟨kb, ob, vb, mb, lb⟩, tb, rb⟩ := b
      conv => whnf
      intro id hid
      conv => whnf
      refine ⟨_, upd_same _ _ _, Nat.le_refl 12, ?_⟩
      conv => whnf
      refine k2 _ ?_
      conv => whnf
      refine ⟨_, upd_same _ _ _, ?_⟩
      conv => whnf
      refine Is.callB hm fun b hb => ?_
      cases b <;> conv => whnf
      · exact Fin.old (congrArg vB (h1 hb).symm) ((Le.upd hid).up2 hid)
      · exact ⟨hi', rfl, ⟨rfl, rfl, rfl, rfl, trivial⟩, (), trivial, (Le.upd hid).up2 hid, h2 hb⟩
    · obtain rfl := nlt_map ‹_› hi
      (refine Fin.old (congrArg vB ?_) (.refl _); rw [eqL_all hlm (fun i h h' => hx i h h h')])
theorem eqfIx_is (l m : List Ix) (hl : l.length ≤ Big) (g : Nat) (caps : List AC) (f : Ix → Ix → Bool) (hf : ∀ e ∈ l, ∀ e' ∈ m, Is Try.prog g (.g (eIx e) :: .g (eIx e') :: caps.map .c) (vB (f e e'))) :
    Is Try.prog 89 [.c (.sl 2 (l.map eIx)), .c (.sl 2 (m.map eIx)), .c (.fn g caps)] (vB (eqL f l m)) := by
  have e1 : (l.map eIx).length = l.length := List.length_map ..
  have e2 : (m.map eIx).length = m.length := List.length_map ..
  refine Is.of TP Try.func89 rfl rfl (Nat.le_of_ble_eq_true rfl) fun st => Pw.of TP [] ?_
  conv => whnf
  repeat' (first | (refine ⟨fun h => ?_, fun h => ?_⟩ <;> conv => whnf) | fail)
  · (refine Fin.old (congrArg vB ?_) (.refl _); rw [eqL_len (by omega)])
  · have hlm : l.length = m.length := by have := Classical.not_not.1 ‹_›; omega
    refine Pw.rng (τ := Unit) 17 l.length hl [1, 2, 15, 16] (fun _ => []) (fun i _ => ∀ (j : Nat), j < i → ∀ (h : j < l.length) (h' : j < m.length), f l[j] m[j] = true) () rfl ⟨⟩ (by intro j h; omega) fun i _ hi hx => Pw.of TP [] ?_
    conv => whnf
    repeat' (first | (refine ⟨fun h => ?_, fun h => ?_⟩ <;> conv => whnf) | fail)
    · have hi' := lt_map ‹_›
      have hi2 : i < m.length := by omega
      refine ixm hi' ?_
      have hm := hf l[i] (List.getElem_mem hi') m[i] (List.getElem_mem hi2)
      have h1 := eqL_no (f := f) hi' hi2
      have h2 : f l[i] m[i] = true → ∀ (j : Nat), j < i + 1 → ∀ (h : j < l.length) (h' : j < m.length), f l[j] m[j] = true := fun he j hj h h' => by
        by_cases hji : j = i
        · subst hji; exact he
        · exact hx j (by omega) h h'
      have k2 := fun F => ixm (f := eIx) (l := m) (j := i) (F := F) hi2
      generalize l[i] = a at hm h1 h2 ⊢
      generalize m[i] = b at hm h1 h2 k2
      obtain ⟨na, ca⟩ := a
      obtain ⟨nb, cb⟩ := b
      conv => whnf
      intro id hid
      conv => whnf
      refine ⟨_, upd_same _ _ _, Nat.le_refl 2, ?_⟩
      conv => whnf
      refine k2 _ ?_
      conv => whnf
      refine ⟨_, upd_same _ _ _, ?_⟩
      conv => whnf
      refine Is.callB hm fun b hb => ?_
      cases b <;> conv => whnf
      · exact Fin.old (congrArg vB (h1 hb).symm) ((Le.upd hid).up2 hid)
      · exact ⟨hi', rfl, ⟨rfl, rfl, rfl, rfl, trivial⟩, (), trivial, (Le.upd hid).up2 hid, h2 hb⟩
    · obtain rfl := nlt_map ‹_› hi
      (refine Fin.old (congrArg vB ?_) (.refl _); rw [eqL_all hlm (fun i h h' => hx i h h h')])
end Go.Proofs.Ytbmgenifdlgbmaa.D
namespace Go.Proofs.Ytbmgenifdlgbmaa.D
set_option linter.unusedVariables false
set_option linter.unusedSimpArgs false
open Go Go.Proofs.Ytbmgenifdlgbmaa.D.Pm
set_option maxRecDepth 4000
def eqCon (x y : Con) : Bool := decide (x.name = y.name) && (decide (x.kind = y.kind) && (decide (x.table = y.table) && (eqL eqStr x.cols y.cols && (eqL eqStr x.refs y.refs && eqE x.check y.check))))
def eqIx (x y : Ix) : Bool := decide (x.name = y.name) && eqL eqStr x.cols y.cols
def eqTb (a b : Tbl) : Bool := decide (a.name = b.name) && (decide (a.owner = b.owner) && (decide (a.version = b.version) && (eqL eqCl a.cols b.cols && (eqL eqCon a.cons b.cons && eqL eqIx a.idx b.idx))))
theorem same1_is (x y : Con) (ok : okC x) : Is Try.prog 83 [.g (eCon x), .g (eCon y)] (vB (eqCon x y)) := by
  have h1 := eqS_is x.cols y.cols (big12 ok.2.1.1)
  have h2 := eqS_is x.refs y.refs (big12 ok.2.2.2.2.1)
  have h3 := same_is x.check ok.2.2.1.1 y.check
  have he : eqCon x y = (decide (x.name = y.name) && (decide (x.kind = y.kind) && (decide (x.table = y.table) && (eqL eqStr x.cols y.cols && (eqL eqStr x.refs y.refs && eqE x.check y.check))))) := rfl
  rw [he]
  clear he ok
  obtain ⟨nx, yx, cx, ex, tx, rx⟩ := x
  obtain ⟨ny, yy, cy, ey, ty, ry⟩ := y
  dsimp only at h1 h2 h3 ⊢
  generalize eqL eqStr cx cy = q1 at h1 ⊢
  generalize eqL eqStr rx ry = q2 at h2 ⊢
  generalize eqE ex ey = q3 at h3 ⊢
  obtain ⟨k1, o1, v1, m1, l1⟩ := ex
  obtain ⟨k2, o2, v2, m2, l2⟩ := ey
  refine Is.of TP Try.func83 rfl rfl (Nat.le_of_ble_eq_true rfl) fun st => Pw.of TP [] ?_
  conv => whnf
  repeat' (first | (refine ⟨fun h => ?_, fun h => ?_⟩ <;> conv => whnf) | (refine Is.callB (h1) fun b hb => ?_; cases b <;> conv => whnf) | (refine Is.callB (h2) fun b hb => ?_; cases b <;> conv => whnf) | (refine Is.callB (h3) fun b hb => ?_; cases b <;> conv => whnf) | fail)
  all_goals clear h1 h2 h3
  all_goals (refine Fin.old (congrArg vB ?_) (.refl _); first | (simp [*]; done) | (simp_all; done))
theorem same2_is (x y : Ix) (ok : okI x) : Is Try.prog 86 [.g (eIx x), .g (eIx y)] (vB (eqIx x y)) := by
  have h1 := eqS_is x.cols y.cols (big12 ok.2.1)
  have he : eqIx x y = (decide (x.name = y.name) && eqL eqStr x.cols y.cols) := rfl
  rw [he]
  clear he ok
  obtain ⟨nx, cx⟩ := x
  obtain ⟨ny, cy⟩ := y
  dsimp only at h1 ⊢
  generalize eqL eqStr cx cy = q1 at h1 ⊢
  refine Is.of TP Try.func86 rfl rfl (Nat.le_of_ble_eq_true rfl) fun st => Pw.of TP [] ?_
  conv => whnf
  repeat' (first | (refine ⟨fun h => ?_, fun h => ?_⟩ <;> conv => whnf) | (refine Is.callB (h1) fun b hb => ?_; cases b <;> conv => whnf) | fail)
  all_goals clear h1
  all_goals (refine Fin.old (congrArg vB ?_) (.refl _); first | (simp [*]; done) | (simp_all; done))
theorem tsame_is (a b : Tbl) (ok : okT a) : Is Try.prog 40 [.g (eT a), .g (eT b)] (vB (eqTb a b)) := by
  have h1 := eqC_is a.cols b.cols (big12 ok.2.2.1.1)
  have h2 := eqfCon_is a.cons b.cons (big12 ok.2.2.2.1.1) 83 [] eqCon (fun e he e' _ => same1_is e e' (ok.2.2.2.1.2 e he))
  have h3 := eqfIx_is a.idx b.idx (big12 ok.2.2.2.2.1) 86 [] eqIx (fun e he e' _ => same2_is e e' (ok.2.2.2.2.2 e he))
  have he : eqTb a b = (decide (a.name = b.name) && (decide (a.owner = b.owner) && (decide (a.version = b.version) && (eqL eqCl a.cols b.cols && (eqL eqCon a.cons b.cons && eqL eqIx a.idx b.idx))))) := rfl
  rw [he]
  clear he ok
  obtain ⟨n1, w1, s1, c1, d1, i1⟩ := a
  obtain ⟨n2, w2, s2, c2, d2, i2⟩ := b
  dsimp only at h1 h2 h3 ⊢
  generalize eqL eqCl c1 c2 = q1 at h1 ⊢
  generalize eqL eqCon d1 d2 = q2 at h2 ⊢
  generalize eqL eqIx i1 i2 = q3 at h3 ⊢
  refine Is.of TP Try.func40 rfl rfl (Nat.le_of_ble_eq_true rfl) fun st => Pw.of TP [] ?_
  conv => whnf
  repeat' (first | (refine ⟨fun h => ?_, fun h => ?_⟩ <;> conv => whnf) | (refine Is.callB (h1) fun b hb => ?_; cases b <;> conv => whnf) | (refine Is.callB (h2) fun b hb => ?_; cases b <;> conv => whnf) | (refine Is.callB (h3) fun b hb => ?_; cases b <;> conv => whnf) | fail)
  all_goals clear h1 h2 h3
  all_goals (refine Fin.old (congrArg vB ?_) (.refl _); first | (simp [*]; done) | (simp_all; done))
theorem rsameTexts_is (l m : List ByteArray) (hl : l.length ≤ Big) : Is Try.prog 31 [.c (eS l), .c (eS m)] (vB (eqL eqStr l m)) := by
  have e1 : (l.map strC).length = l.length := List.length_map ..
  have e2 : (m.map strC).length = m.length := List.length_map ..
  refine Is.of TP Try.func31 rfl rfl (Nat.le_of_ble_eq_true rfl) fun st => Pw.of TP [] ?_
  conv => whnf
  refine ⟨fun h => ?_, fun h => ?_⟩ <;> conv => whnf
  · (refine Fin.old (congrArg vB ?_) (.refl _); rw [eqL_len (by omega)])
  have hlm : l.length = m.length := by have := Classical.not_not.1 h; omega
  refine Pw.rng (τ := Unit) 5 l.length hl [0, 1] (fun _ => []) (fun i _ => ∀ (j : Nat), j < i → ∀ (h : j < l.length) (h' : j < m.length), eqStr l[j] m[j] = true) () rfl ⟨⟩ (by intro j h; omega) fun i _ hi hx => Pw.of TP [] ?_
  conv => whnf
  refine ⟨fun h => ?_, fun h => ?_⟩ <;> conv => whnf
  · have hi' := lt_map ‹_›
    have hi2 : i < m.length := by omega
    have k1 := fun F => ixm (f := strC) (F := F) hi'
    have k2 := fun F => ixm (f := strC) (F := F) hi2
    have h1 := eqL_no (f := eqStr) hi' hi2
    have h2 : eqStr l[i] m[i] = true → ∀ (j : Nat), j < i + 1 → ∀ (h : j < l.length) (h' : j < m.length), eqStr l[j] m[j] = true := fun he j hj h h' => by
      by_cases hji : j = i
      · subst hji; exact he
      · exact hx j (by omega) h h'
    generalize l[i] = a at k1 h1 h2
    generalize m[i] = b at k2 h1 h2
    refine Pw.drw TP mixed (by kernel_rfl) ?_; conv => whnf
    refine k1 _ ?_
    conv => whnf
    refine k2 _ ?_
    conv => whnf
    refine ⟨fun (h : ¬ a = b) => ?_, fun (h : ¬ ¬ a = b) => ?_⟩ <;> conv => whnf
    · (refine Fin.old (congrArg vB ?_) (.refl _); rw [h1 (decide_eq_false h)])
    · exact ⟨hi', rfl, ⟨rfl, rfl, trivial⟩, (), trivial, .refl _, h2 (decide_eq_true (Classical.not_not.1 h))⟩
  obtain rfl := nlt_map ‹_› hi
  (refine Fin.old (congrArg vB ?_) (.refl _); rw [eqL_all hlm (fun i h h' => hx i h h h')])
theorem rsameCons_is (x y : Con) (ok : okC x) : Is Try.prog 90 [.g (eCon x), .g (eCon y)] (vB (eqCon x y)) := by
  have h1 := rsameTexts_is x.cols y.cols (big12 ok.2.1.1)
  have h2 := rsameTexts_is x.refs y.refs (big12 ok.2.2.2.2.1)
  have h3 := rsame_is x.check ok.2.2.1.1 y.check
  have he : eqCon x y = (decide (x.name = y.name) && (decide (x.kind = y.kind) && (decide (x.table = y.table) && (eqL eqStr x.cols y.cols && (eqL eqStr x.refs y.refs && eqE x.check y.check))))) := rfl
  rw [he]
  clear he ok
  obtain ⟨nx, yx, cx, ex, tx, rx⟩ := x
  obtain ⟨ny, yy, cy, ey, ty, ry⟩ := y
  dsimp only at h1 h2 h3 ⊢
  generalize eqL eqStr cx cy = q1 at h1 ⊢
  generalize eqL eqStr rx ry = q2 at h2 ⊢
  generalize eqE ex ey = q3 at h3 ⊢
  obtain ⟨k1, o1, v1, m1, l1⟩ := ex
  obtain ⟨k2, o2, v2, m2, l2⟩ := ey
  refine Is.of TP Try.func90 rfl rfl (Nat.le_of_ble_eq_true rfl) fun st => Pw.of TP [] ?_
  conv => whnf
  repeat' (first | (refine ⟨fun h => ?_, fun h => ?_⟩ <;> conv => whnf) | (refine Is.callB (h1) fun b hb => ?_; cases b <;> conv => whnf) | (refine Is.callB (h2) fun b hb => ?_; cases b <;> conv => whnf) | (refine Is.callB (h3) fun b hb => ?_; cases b <;> conv => whnf) | fail)
  all_goals clear h1 h2 h3
  all_goals (refine Fin.old (congrArg vB ?_) (.refl _); first | (simp [*]; done) | (simp_all; done))
theorem eqTb_f1 {a b : Tbl} (h : a.name ≠ b.name ∨ a.owner ≠ b.owner ∨ a.version ≠ b.version ∨ eqL eqCl a.cols b.cols = false ∨ eqL eqCon a.cons b.cons = false ∨ eqL eqIx a.idx b.idx = false) : eqTb a b = false := by
  unfold eqTb
  rcases h with h | h | h | h | h | h <;> simp [h]
set_option maxHeartbeats 1000000 in
theorem rsame14_is (a b : Tbl) (ok : okT a) : Is Try.prog 41 [.g (eT a), .g (eT b)] (vB (eqTb a b)) := by
  have l1 : (a.cols.map eCl).length = a.cols.length := List.length_map ..
  have l2 : (b.cols.map eCl).length = b.cols.length := List.length_map ..
  have l3 : (a.cons.map eCon).length = a.cons.length := List.length_map ..
  have l4 : (b.cons.map eCon).length = b.cons.length := List.length_map ..
  have l5 : (a.idx.map eIx).length = a.idx.length := List.length_map ..
  have l6 : (b.idx.map eIx).length = b.idx.length := List.length_map ..
  have hno := eqTb_f1 (a := a) (b := b)
  have hyes : a.name = b.name → a.owner = b.owner → a.version = b.version → eqL eqCl a.cols b.cols = true → eqL eqCon a.cons b.cons = true → eqL eqIx a.idx b.idx = true → eqTb a b = true := fun h1 h2 h3 h4 h5 h6 => by
    unfold eqTb; simp [h1, h2, h3, h4, h5, h6]
  generalize eqTb a b = R at hno hyes ⊢
  refine Is.of TP Try.func41 rfl rfl (Nat.le_of_ble_eq_true rfl) fun st => Pw.of TP [1] ?_
  conv => whnf
  refine Pw.cut (τ := Unit) [2, 3] (fun _ => []) (fun _ => st) (fun _ => a.name = b.name ∧ a.owner = b.owner ∧ a.version = b.version ∧ a.cols.length = b.cols.length ∧ a.cons.length = b.cons.length ∧ a.idx.length = b.idx.length) (Pw.of TP [] ?_) fun _ hb => Pw.of TP [] ?_
  · conv => whnf
    repeat' (first | (refine ⟨fun h => ?_, fun h => ?_⟩ <;> conv => whnf) | fail)
    all_goals first
      | (refine Fin.old (congrArg vB (hno ?_).symm) (.refl _); first | exact .inl ‹_› | exact .inr (.inl ‹_›) | exact .inr (.inr (.inl ‹_›)) | exact .inr (.inr (.inr (.inl (eqL_len (by omega))))) | exact .inr (.inr (.inr (.inr (.inl (eqL_len (by omega)))))) | exact .inr (.inr (.inr (.inr (.inr (eqL_len (by omega)))))))
      | exact ⟨⟨rfl, rfl, trivial⟩, (), trivial, .refl _, Classical.not_not.1 ‹_›, Classical.not_not.1 ‹_›, Classical.not_not.1 ‹_›, by omega, by omega, by omega⟩
  obtain ⟨g1, g2, g3, g4, g5, g6⟩ := hb
  conv => whnf
  refine Pw.rng (τ := Unit) 5 a.cols.length (big12 ok.2.2.1.1) [2, 3] (fun _ => []) (fun i _ => ∀ (j : Nat), j < i → ∀ (h : j < a.cols.length) (h' : j < b.cols.length), eqCl a.cols[j] b.cols[j] = true) () rfl ⟨⟩ (by intro j h; omega) fun i _ hi hx => Pw.of TP [] ?_
  conv => whnf
  refine ⟨fun h => ?_, fun h => ?_⟩ <;> conv => whnf
  · have hi' := lt_map ‹_›
    have hi2 : i < b.cols.length := by omega
    have k1 := fun F => ixm (f := eCl) (F := F) hi'
    have k2 := fun F => ixm (f := eCl) (F := F) hi2
    have h1 := eqL_no (f := eqCl) hi' hi2
    have h2 : eqCl a.cols[i] b.cols[i] = true → ∀ (j : Nat), j < i + 1 → ∀ (h : j < a.cols.length) (h' : j < b.cols.length), eqCl a.cols[j] b.cols[j] = true := fun he j hj h h' => by
      by_cases hji : j = i
      · subst hji; exact he
      · exact hx j (by omega) h h'
    generalize a.cols[i] = c at k1 h1 h2
    generalize b.cols[i] = d at k2 h1 h2
    obtain ⟨na, ya, qa⟩ := c
    obtain ⟨nb, yb, qb⟩ := d
    refine Pw.drw TP mixed (by kernel_rfl) ?_; conv => whnf
    refine k1 _ ?_
    conv => whnf
    refine k2 _ ?_
    conv => whnf
    refine ⟨fun (h : ¬ (na = nb ∧ ya = yb ∧ qa = qb ∧ True)) => ?_, fun (h : ¬ ¬ (na = nb ∧ ya = yb ∧ qa = qb ∧ True)) => ?_⟩ <;> conv => whnf
    · (refine Fin.old (congrArg vB ?_) (.refl _); rw [hno (.inr (.inr (.inr (.inl (h1 (decide_eq_false fun q => h ⟨q.1, q.2.1, q.2.2, trivial⟩))))))])
    · exact ⟨hi', rfl, ⟨rfl, rfl, trivial⟩, (), trivial, .refl _, h2 (decide_eq_true (by have q := Classical.not_not.1 h; exact ⟨q.1, q.2.1, q.2.2.1⟩))⟩
  obtain rfl := nlt_map ‹_› hi
  have g7 := eqL_all g4 fun i h h' => hx i h h h'
  clear hx
  refine Pw.rng (τ := Unit) 6 a.cons.length (big12 ok.2.2.2.1.1) [2, 3] (fun _ => []) (fun i _ => ∀ (j : Nat), j < i → ∀ (h : j < a.cons.length) (h' : j < b.cons.length), eqCon a.cons[j] b.cons[j] = true) () rfl ⟨⟩ (by intro j h; omega) fun i _ hi hx => Pw.of TP [] ?_
  conv => whnf
  refine ⟨fun h => ?_, fun h => ?_⟩ <;> conv => whnf
  · have hi' := lt_map ‹_›
    have hi2 : i < b.cons.length := by omega
    have k1 := fun F => ixm (f := eCon) (F := F) hi'
    have k2 := fun F => ixm (f := eCon) (F := F) hi2
    have h1 := eqL_no (f := eqCon) hi' hi2
    have h2 : eqCon a.cons[i] b.cons[i] = true → ∀ (j : Nat), j < i + 1 → ∀ (h : j < a.cons.length) (h' : j < b.cons.length), eqCon a.cons[j] b.cons[j] = true := fun he j hj h h' => by
      by_cases hji : j = i
      · subst hji; exact he
      · exact hx j (by omega) h h'
    have hm := rsameCons_is a.cons[i] b.cons[i] (ok.2.2.2.1.2 _ (List.getElem_mem hi'))
    generalize a.cons[i] = c at k1 h1 h2 hm
    generalize b.cons[i] = d at k2 h1 h2 hm
    generalize eqCon c d = e at h1 h2 hm
    obtain ⟨nx, yx, cx, ⟨k1', o1, v1, m1, l1'⟩, tx, rx⟩ := c
    obtain ⟨ny, yy, cy, ⟨k2', o2, v2, m2, l2'⟩, ty, ry⟩ := d
    refine Pw.drw TP mixed (by kernel_rfl) ?_; conv => whnf
    refine k1 _ ?_
    conv => whnf
    refine k2 _ ?_
    conv => whnf
    refine Is.drawB hm fun q hq => ?_
    cases q <;> conv => whnf
    · (refine Fin.old (congrArg vB ?_) (.refl _); rw [hno (.inr (.inr (.inr (.inr (.inl (h1 hq))))))])
    · exact ⟨hi', rfl, ⟨rfl, rfl, trivial⟩, (), trivial, .refl _, h2 hq⟩
  obtain rfl := nlt_map ‹_› hi
  have g8 := eqL_all g5 fun i h h' => hx i h h h'
  clear hx
  refine Pw.rng (τ := Unit) 7 a.idx.length (big12 ok.2.2.2.2.1) [2, 3] (fun _ => []) (fun i _ => ∀ (j : Nat), j < i → ∀ (h : j < a.idx.length) (h' : j < b.idx.length), eqIx a.idx[j] b.idx[j] = true) () rfl ⟨⟩ (by intro j h; omega) fun i _ hi hx => Pw.of TP [] ?_
  conv => whnf
  refine ⟨fun h => ?_, fun h => ?_⟩ <;> conv => whnf
  · have hi' := lt_map ‹_›
    have hi2 : i < b.idx.length := by omega
    have k1 := fun F => ixm (f := eIx) (F := F) hi'
    have k2 := fun F => ixm (f := eIx) (F := F) hi2
    have h1 := eqL_no (f := eqIx) hi' hi2
    have h2 : eqIx a.idx[i] b.idx[i] = true → ∀ (j : Nat), j < i + 1 → ∀ (h : j < a.idx.length) (h' : j < b.idx.length), eqIx a.idx[j] b.idx[j] = true := fun he j hj h h' => by
      by_cases hji : j = i
      · subst hji; exact he
      · exact hx j (by omega) h h'
    have hm := rsameTexts_is a.idx[i].cols b.idx[i].cols (big12 (ok.2.2.2.2.2 _ (List.getElem_mem hi')).2.1)
    have he : eqIx a.idx[i] b.idx[i] = (decide (a.idx[i].name = b.idx[i].name) && eqL eqStr a.idx[i].cols b.idx[i].cols) := rfl
    rw [he] at h1 h2
    generalize a.idx[i] = c at k1 h1 h2 hm
    generalize b.idx[i] = d at k2 h1 h2 hm
    obtain ⟨nx, cx⟩ := c
    obtain ⟨ny, cy⟩ := d
    dsimp only at h1 h2 hm
    generalize eqL eqStr cx cy = e at h1 h2 hm
    clear he
    refine Pw.drw TP mixed (by kernel_rfl) ?_; conv => whnf
    refine k1 _ ?_
    conv => whnf
    refine k2 _ ?_
    conv => whnf
    refine ⟨fun h => ?_, fun h => ?_⟩ <;> conv => whnf
    · (refine Fin.old (congrArg vB ?_) (.refl _); rw [hno (.inr (.inr (.inr (.inr (.inr (h1 (by rw [decide_eq_false h]; rfl)))))))])
    · refine k1 _ ?_
      conv => whnf
      refine k2 _ ?_
      conv => whnf
      refine Is.drawB hm fun q hq => ?_
      cases q <;> conv => whnf
      · (refine Fin.old (congrArg vB ?_) (.refl _); rw [hno (.inr (.inr (.inr (.inr (.inr (h1 (by rw [hq, Bool.and_false])))))))])
      · exact ⟨hi', rfl, ⟨rfl, rfl, trivial⟩, (), trivial, .refl _, h2 (by rw [hq, decide_eq_true (Classical.not_not.1 h)]; rfl)⟩
  obtain rfl := nlt_map ‹_› hi
  have g9 := eqL_all g6 fun i h h' => hx i h h h'
  (refine Fin.old (congrArg vB ?_) (.refl _); rw [hyes g1 g2 g3 g7 g8 g9])
end Go.Proofs.Ytbmgenifdlgbmaa.D
namespace Go.Proofs.Ytbmgenifdlgbmaa.D
set_option linter.unusedVariables false
set_option linter.unusedSimpArgs false
open Go Go.Proofs.Ytbmgenifdlgbmaa.D.Pm
set_option maxRecDepth 4000
theorem cloneS_does (l : List ByteArray) (hl : l.length ≤ 12) (st : Sto) : Does Try.prog 80 [.c (.sl 1 (l.map strC))] st fun r s => CL st s 1 (l.map strC) r := by
  refine Does.of TP Try.func80 rfl rfl (Nat.le_of_ble_eq_true rfl) (Pw.of TP [1000005] ?_)
  conv => whnf
  intro b hb
  cases b <;> conv => whnf
  · intro id hid
    conv => whnf
    have e0 : (l.map strC).length = l.length := List.length_map ..
    refine ⟨rfl, _, upd_same _ _ _, Nat.le_refl 0, (by show 0 + (l.map strC).length ≤ maxLen; unfold maxLen; omega), (by show (0 + (l.map strC).length) * 16 ≤ 140737488355328; omega), fun id2 h2 => ?_⟩
    conv => whnf
    refine Fin.same rfl (st0 := upd st id2 (.ar 1 (l.map strC))) (fun i o hi => ?_) (.inr ⟨id2, ?_, by rw [Nat.zero_add]; rfl, rfl⟩)
    · by_cases e : i = id2
      · subst e; rw [upd_same] at hi ⊢; exact hi
      · rw [upd_ne _ e] at hi ⊢
        have hne : i ≠ id := fun e2 => by subst e2; rw [hid] at hi; cases hi
        unfold del; rw [if_neg hne, upd_ne _ hne]; exact hi
    · by_cases e : id2 = id
      · subst e; exact hid
      · rw [upd_ne _ e] at h2; exact h2
  · have h0 : l.map strC = [] := List.eq_nil_of_length_eq_zero (by
      rcases Nat.eq_zero_or_pos (l.map strC).length with h | h
      · exact h
      · exact absurd (hb h) (by decide))
    exact Fin.same rfl (.refl _) (.inl ⟨h0, rfl, rfl⟩)
theorem cloneCl_does (l : List Cl) (hl : l.length ≤ 12) (st : Sto) : Does Try.prog 78 [.c (.sl 3 (l.map eCl))] st fun r s => CL st s 3 (l.map eCl) r := by
  refine Does.of TP Try.func78 rfl rfl (Nat.le_of_ble_eq_true rfl) (Pw.of TP [1000005] ?_)
  conv => whnf
  intro b hb
  cases b <;> conv => whnf
  · intro id hid
    conv => whnf
    have e0 : (l.map eCl).length = l.length := List.length_map ..
    refine ⟨rfl, _, upd_same _ _ _, Nat.le_refl 0, (by show 0 + (l.map eCl).length ≤ maxLen; unfold maxLen; omega), (by show (0 + (l.map eCl).length) * 32 ≤ 140737488355328; omega), fun id2 h2 => ?_⟩
    conv => whnf
    refine Fin.same rfl (st0 := upd st id2 (.ar 3 (l.map eCl))) (fun i o hi => ?_) (.inr ⟨id2, ?_, by rw [Nat.zero_add]; rfl, rfl⟩)
    · by_cases e : i = id2
      · subst e; rw [upd_same] at hi ⊢; exact hi
      · rw [upd_ne _ e] at hi ⊢
        have hne : i ≠ id := fun e2 => by subst e2; rw [hid] at hi; cases hi
        unfold del; rw [if_neg hne, upd_ne _ hne]; exact hi
    · by_cases e : id2 = id
      · subst e; exact hid
      · rw [upd_ne _ e] at h2; exact h2
  · have h0 : l.map eCl = [] := List.eq_nil_of_length_eq_zero (by
      rcases Nat.eq_zero_or_pos (l.map eCl).length with h | h
      · exact h
      · exact absurd (hb h) (by decide))
    exact Fin.same rfl (.refl _) (.inl ⟨h0, rfl, rfl⟩)
theorem cloneCon_does (l : List Con) (hl : l.length ≤ 12) (st : Sto) : Does Try.prog 79 [.c (.sl 12 (l.map eCon))] st fun r s => CL st s 12 (l.map eCon) r := by
  refine Does.of TP Try.func79 rfl rfl (Nat.le_of_ble_eq_true rfl) (Pw.of TP [1000005] ?_)
  conv => whnf
  intro b hb
  cases b <;> conv => whnf
  · intro id hid
    conv => whnf
    have e0 : (l.map eCon).length = l.length := List.length_map ..
    refine ⟨rfl, _, upd_same _ _ _, Nat.le_refl 0, (by show 0 + (l.map eCon).length ≤ maxLen; unfold maxLen; omega), (by show (0 + (l.map eCon).length) * 176 ≤ 140737488355328; omega), fun id2 h2 => ?_⟩
    conv => whnf
    refine Fin.same rfl (st0 := upd st id2 (.ar 12 (l.map eCon))) (fun i o hi => ?_) (.inr ⟨id2, ?_, by rw [Nat.zero_add]; rfl, rfl⟩)
    · by_cases e : i = id2
      · subst e; rw [upd_same] at hi ⊢; exact hi
      · rw [upd_ne _ e] at hi ⊢
        have hne : i ≠ id := fun e2 => by subst e2; rw [hid] at hi; cases hi
        unfold del; rw [if_neg hne, upd_ne _ hne]; exact hi
    · by_cases e : id2 = id
      · subst e; exact hid
      · rw [upd_ne _ e] at h2; exact h2
  · have h0 : l.map eCon = [] := List.eq_nil_of_length_eq_zero (by
      rcases Nat.eq_zero_or_pos (l.map eCon).length with h | h
      · exact h
      · exact absurd (hb h) (by decide))
    exact Fin.same rfl (.refl _) (.inl ⟨h0, rfl, rfl⟩)
theorem cloneIx_does (l : List Ix) (hl : l.length ≤ 12) (st : Sto) : Does Try.prog 82 [.c (.sl 2 (l.map eIx))] st fun r s => CL st s 2 (l.map eIx) r := by
  refine Does.of TP Try.func82 rfl rfl (Nat.le_of_ble_eq_true rfl) (Pw.of TP [1000005] ?_)
  conv => whnf
  intro b hb
  cases b <;> conv => whnf
  · intro id hid
    conv => whnf
    have e0 : (l.map eIx).length = l.length := List.length_map ..
    refine ⟨rfl, _, upd_same _ _ _, Nat.le_refl 0, (by show 0 + (l.map eIx).length ≤ maxLen; unfold maxLen; omega), (by show (0 + (l.map eIx).length) * 40 ≤ 140737488355328; omega), fun id2 h2 => ?_⟩
    conv => whnf
    refine Fin.same rfl (st0 := upd st id2 (.ar 2 (l.map eIx))) (fun i o hi => ?_) (.inr ⟨id2, ?_, by rw [Nat.zero_add]; rfl, rfl⟩)
    · by_cases e : i = id2
      · subst e; rw [upd_same] at hi ⊢; exact hi
      · rw [upd_ne _ e] at hi ⊢
        have hne : i ≠ id := fun e2 => by subst e2; rw [hid] at hi; cases hi
        unfold del; rw [if_neg hne, upd_ne _ hne]; exact hi
    · by_cases e : id2 = id
      · subst e; exact hid
      · rw [upd_ne _ e] at h2; exact h2
  · have h0 : l.map eIx = [] := List.eq_nil_of_length_eq_zero (by
      rcases Nat.eq_zero_or_pos (l.map eIx).length with h | h
      · exact h
      · exact absurd (hb h) (by decide))
    exact Fin.same rfl (.refl _) (.inl ⟨h0, rfl, rfl⟩)
end Go.Proofs.Ytbmgenifdlgbmaa.D
namespace Go.Proofs.Ytbmgenifdlgbmaa.D
set_option linter.unusedVariables false
set_option linter.unusedSimpArgs false
open Go Go.Proofs.Ytbmgenifdlgbmaa.D.Pm
set_option maxRecDepth 4000
def zT : List AC := [.v (.string ⟨#[]⟩), .v (.string ⟨#[]⟩), .v (.int .i64 0), .v (.slice none 0 0), .v (.slice none 0 0), .v (.slice none 0 0)]
theorem eCl_own (l : List Cl) : ∀ q ∈ l.map eCl, q.length = 3 ∧ okR RT0 (fun _ => none) 3 q := fun q hq => by
  obtain ⟨c, _, rfl⟩ := List.mem_map.1 hq
  exact ⟨rfl, .cons ⟨_, rfl⟩ (.cons ⟨_, rfl⟩ (.cons ⟨_, rfl⟩ .nil))⟩
theorem strC_own (l : List ByteArray) : ∀ q ∈ l.map strC, q.length = 1 ∧ okR RT0 (fun _ => none) 1 q := fun q hq => by
  obtain ⟨c, _, rfl⟩ := List.mem_map.1 hq
  exact ⟨rfl, .cons ⟨_, rfl⟩ .nil⟩
theorem set_at {α : Type} {l : List α} {j : Nat} {x y : α} (h : l[j]? = some x) : (l.set j y)[j]? = some y := by
  rw [List.getElem?_set_self (List.getElem?_eq_some_iff.1 h).1]
theorem set_mid {α : Type} {l r : List α} {j i : Nat} {y : α} (hl : l.length = i) (hj : j = i) : (l ++ r.drop i).set j y = l ++ (if i < r.length then y :: r.drop (i + 1) else []) := by
  subst hj
  rw [List.set_append_right _ _ (by omega), hl, Nat.sub_self]
  split
  · rw [List.drop_eq_getElem_cons ‹_›]; rfl
  · rw [List.drop_eq_nil_of_le (by omega)]; rfl
/-- the list of constraints, of which the first i are done -/
def CJ (st : Sto) (id1 id2 : Nat) (t : Tbl) (a1 c4 : AC) (i : Nat) (y : Sto) : Prop :=
  Le st y ∧ st id1 = none ∧ st id2 = none ∧ y id1 = some (.bx [.v (.string t.name), .v (.string t.owner), .v (.int .i64 t.version), a1, c4, .sl 2 (t.idx.map eIx)]) ∧ y id2 = some (.bx zT) ∧
  ((t.cons = [] ∧ c4 = .v (.slice none 0 0) ∧ ∃ L, Own RT0 st y L [.L 3] [a1] [.sl 3 (t.cols.map eCl)]) ∨
    ∃ id4 L rows, c4 = .arr id4 0 (t.cons.map eCon).length ∧ st id4 = none ∧ InPl RT0 st y id4 12 i (t.cons.map eCon) [.L 3] [a1] [.sl 3 (t.cols.map eCl)] L rows)
theorem CJ.own {st : Sto} {id1 id2 : Nat} {t : Tbl} {a1 c4 : AC} {y : Sto} (h : CJ st id1 id2 t a1 c4 t.cons.length y) (hy : ∀ r ∈ t.cons.map eCon, r.length = 12) : ∃ L, Own RT0 st y L [.L 3, .L 12] [a1, c4] [.sl 3 (t.cols.map eCl), .sl 12 (t.cons.map eCon)] := by
  obtain ⟨hle, _, _, _, _, ⟨e0, rfl, L, o⟩ | ⟨id4, L, rows, rfl, h4, hP⟩⟩ := h
  · have hf := F2.snoc (.nil 12) o.fz
    rw [e0]
    exact ⟨L, hle, o.new, o.ty, hf, F2.snoc (.inl rfl) o.ok⟩
  · have e : t.cons.length = (t.cons.map eCon).length := (List.length_map ..).symm
    rw [e] at hP
    exact hP.done hle h4 hy
/-- the list of indexes, of which the first i are done -/
def CI (st : Sto) (id1 id2 : Nat) (t : Tbl) (a1 c4 c5 : AC) (i : Nat) (y : Sto) : Prop :=
  Le st y ∧ y id1 = some (.bx [.v (.string t.name), .v (.string t.owner), .v (.int .i64 t.version), a1, c4, c5]) ∧ y id2 = some (.bx zT) ∧
  ((t.idx = [] ∧ c5 = .v (.slice none 0 0) ∧ ∃ L, Own RT0 st y L [.L 3, .L 12] [a1, c4] [.sl 3 (t.cols.map eCl), .sl 12 (t.cons.map eCon)]) ∨
    ∃ id5 L rows, c5 = .arr id5 0 (t.idx.map eIx).length ∧ st id5 = none ∧ InPl RT0 st y id5 2 i (t.idx.map eIx) [.L 3, .L 12] [a1, c4] [.sl 3 (t.cols.map eCl), .sl 12 (t.cons.map eCon)] L rows)
theorem CI.own {st : Sto} {id1 id2 : Nat} {t : Tbl} {a1 c4 c5 : AC} {y : Sto} (h : CI st id1 id2 t a1 c4 c5 t.idx.length y) : ∃ L, Own RT0 st y L [.L 3, .L 12, .L 2] [a1, c4, c5] [.sl 3 (t.cols.map eCl), .sl 12 (t.cons.map eCon), .sl 2 (t.idx.map eIx)] := by
  obtain ⟨hle, _, _, ⟨e0, rfl, L, o⟩ | ⟨id4, L, rows, rfl, h4, hP⟩⟩ := h
  · have hf := F2.snoc (.nil 2) o.fz
    rw [e0]
    exact ⟨L, hle, o.new, o.ty, hf, F2.snoc (.inl rfl) o.ok⟩
  · have e : t.idx.length = (t.idx.map eIx).length := (List.length_map ..).symm
    rw [e] at hP
    exact hP.done hle h4 fun r hr => by obtain ⟨x, _, rfl⟩ := List.mem_map.1 hr; rfl
theorem eCon_length (x : Con) : (eCon x).length = 12 := by obtain ⟨_, _, _, ⟨_, _, _, _, _⟩, _, _⟩ := x; rfl
theorem tclone_does (t : Tbl) (ok : okT t) (st : Sto) : Does Try.prog 39 [.g (eT t)] st fun r s => ∃ L xs, r = .g xs ∧ Own RT0 st s L [.S, .S, .I, .L 3, .L 12, .L 2] xs (eT t) := by
  refine Does.of TP Try.func39 rfl rfl (Nat.le_of_ble_eq_true rfl) (Pw.of TP [1000001, 3] ?_)
  conv => whnf
  intro id1 h1
  conv => whnf
  intro id2 h2
  conv => whnf
  have hne : id1 ≠ id2 := fun e => by subst e; rw [upd_same] at h2; cases h2
  have h2' : st id2 = none := by rw [upd_ne _ hne.symm] at h2; exact h2
  obtain ⟨B, hB⟩ : ∃ B, B = upd (upd st id1 (.bx (eT t))) id2 (.bx zT) := ⟨_, rfl⟩
  have hle : Le st B := by rw [hB]; exact ((Le.refl st).up h1).up h2
  have b1 : B id1 = some (.bx (eT t)) := by rw [hB]; exact upd_old h2 (upd_same _ _ _)
  have b2 : B id2 = some (.bx zT) := by rw [hB]; exact upd_same _ _ _
  refine ⟨_, upd_old h2 (upd_same _ _ _), ?_⟩
  conv => whnf
  refine Does.mono (cloneCl_does t.cols ok.2.2.1.1 _) fun r s1 hc => ?_
  have hc : CL B s1 3 (t.cols.map eCl) r := by rw [hB]; exact hc
  have l1 := hc.le
  obtain ⟨L1, a1, rfl, o1⟩ := hc.own (eCl_own t.cols)
  conv => whnf
  refine ⟨_, l1 _ _ b1, Nat.le_of_ble_eq_true rfl, ?_⟩
  conv => whnf
  refine ⟨_, upd_same _ _ _, ?_⟩
  conv => whnf
  obtain ⟨S2, hS2⟩ : ∃ S2, S2 = upd s1 id1 (.bx [.v (.string t.name), .v (.string t.owner), .v (.int .i64 t.version), a1, .sl 12 (t.cons.map eCon), .sl 2 (t.idx.map eIx)]) := ⟨_, rfl⟩
  have hLn1 : L1 id1 = none := typd_bx o1.ty (l1 _ _ b1)
  have hLn2 : L1 id2 = none := typd_bx o1.ty (l1 _ _ b2)
  have hle2 : Le st S2 := by rw [hS2]; exact (hle.trans l1).up2 h1
  have c1 : S2 id1 = some (.bx [.v (.string t.name), .v (.string t.owner), .v (.int .i64 t.version), a1, .sl 12 (t.cons.map eCon), .sl 2 (t.idx.map eIx)]) := by rw [hS2]; exact upd_same _ _ _
  have c2 : S2 id2 = some (.bx zT) := by rw [hS2]; exact (upd_ne _ hne.symm).trans (l1 _ _ b2)
  have o2 : Own RT0 st S2 L1 [.L 3] [a1] [.sl 3 (t.cols.map eCl)] := by
    refine ⟨hle2, fun i p hi => hle.none (o1.new i p hi), ?_, ?_, o1.ok⟩
    all_goals have k : ∀ j p ob, L1 j = some p → s1 j = some ob → S2 j = some ob := fun j p ob hj hs => by rw [hS2, upd_ne _ (fun e => by subst e; rw [hLn1] at hj; cases hj)]; exact hs
    · exact o1.ty.keep k
    · exact F2.imp (fun _ _ hf => Fz.dm (.refl L1) k hf) o1.fz
  refine Does.mono (cloneCon_does t.cons ok.2.2.2.1.1 _) fun r s3 hc2 => ?_
  have hc2 : CL S2 s3 12 (t.cons.map eCon) r := by rw [hS2]; exact hc2
  have l3 := hc2.le
  have key : ∃ c4, r = .c c4 ∧ CJ st id1 id2 t a1 c4 0 (upd s3 id1 (.bx [.v (.string t.name), .v (.string t.owner), .v (.int .i64 t.version), a1, c4, .sl 2 (t.idx.map eIx)])) := by
    have q1 : ∀ o, Le st (upd s3 id1 o) := fun o => (hle2.trans l3).up2 h1
    have q2 : ∀ o, upd s3 id1 o id2 = some (.bx zT) := fun o => (upd_ne _ hne.symm).trans (l3 _ _ c2)
    have kp : ∀ o j ob, L1.dom j = true → S2 j = some ob → upd s3 id1 o j = some ob := fun o j ob hj hs => by
      rw [upd_ne _ (fun e => by subst e; unfold Tab.dom at hj; rw [hLn1] at hj; cases hj)]; exact l3 _ _ hs
    rcases hc2 with ⟨h0, rfl, rfl⟩ | ⟨id4, h4, rfl, rfl⟩
    · refine ⟨_, rfl, q1 _, h1, h2', upd_same _ _ _, q2 _, .inl ⟨List.map_eq_nil_iff.1 h0, rfl, L1, o2.keep (q1 _) fun j p ob hj hs => kp _ j ob (by unfold Tab.dom; rw [hj]; rfl) hs⟩⟩
    · have hn4 : id4 ≠ id1 := fun e => by subst e; rw [c1] at h4; cases h4
      refine ⟨_, rfl, q1 _, h1, h2', upd_same _ _ _, q2 _, .inr ⟨id4, L1, [], rfl, hle2.none h4, InPl.start o2 h4 (kp _) ((upd_ne _ hn4).trans (upd_same _ _ _))⟩⟩
  clear hc2 hc
  obtain ⟨c4, rfl, hJ⟩ := key
  conv => whnf
  refine ⟨_, l3 _ _ c1, Nat.le_of_ble_eq_true rfl, ?_⟩
  conv => whnf
  generalize hs5 : upd s3 id1 _ = s5
  have hJ : CJ st id1 id2 t a1 c4 0 s5 := by rw [← hs5]; exact hJ
  clear hs5
  refine Pw.cut (τ := Sto) [1, 2] (fun _ => []) (fun y => y) (fun y => CJ st id1 id2 t a1 c4 t.cons.length y) (Pw.of TP [] ?_) fun y hJ => ?_
  · conv => whnf
    refine ⟨_, hJ.2.2.2.1, ?_⟩
    have hJ' := hJ
    obtain ⟨_, _, _, _, _, ⟨e0, rfl, _⟩ | ⟨id4, L, rows, rfl, _⟩⟩ := hJ'
    · conv => whnf
      refine Pw.rngS (τ := Unit) 18 0 (Nat.zero_le _) [1, 2, 16, 17] (fun _ _ => []) (fun _ _ => s5) (fun _ _ => True) () rfl ⟨⟩ (.refl _) trivial fun i _ hi _ => Pw.of TP [] ?_
      conv => whnf
      refine ⟨fun h => absurd h (show ¬ (i : Int) < ((0 : Nat) : Int) by omega), fun _ => ?_⟩
      conv => whnf
      exact ⟨⟨rfl, rfl, trivial⟩, s5, trivial, .refl _, by rw [e0]; exact hJ⟩
    · conv => whnf
      refine Pw.rngS (τ := Sto) 18 t.cons.length (big12 ok.2.2.2.1.1) [1, 2, 16, 17] (fun _ _ => []) (fun _ y => y) (fun i y => CJ st id1 id2 t a1 (.arr id4 0 (t.cons.map eCon).length) i y) s5 rfl ⟨⟩ (.refl _) hJ fun i y hi hJ => Pw.of TP [] ?_
      conv => whnf
      have el : (t.cons.map eCon).length = t.cons.length := List.length_map ..
      refine ⟨fun h => ?_, fun h => ?_⟩ <;> rw [el] at h <;> conv => whnf
      · have hi' : i < t.cons.length := by omega
        obtain ⟨hle, _, _, p1, p2, ⟨_, e, _⟩ | ⟨id4', L, rows, e, hn4, hP⟩⟩ := hJ
        · cases e
        cases e
        have hPi : i < (t.cons.map eCon).length := by rw [el]; exact hi'
        have hrow : (rows ++ (t.cons.map eCon).drop i)[0 + ((i : Nat) : Int).toNat]? = some (eCon t.cons[i]) := by
          rw [Nat.zero_add, Int.toNat_natCast, List.getElem?_append_right (by rw [hP.len]; exact Nat.le_refl _), hP.len, Nat.sub_self, List.getElem?_drop, Nat.add_zero, List.getElem?_map, List.getElem?_eq_getElem hi']; rfl
        refine ⟨by omega, by omega, ⟨_, hP.at_⟩, ?_⟩
        conv => whnf
        refine ⟨_, _, _, hP.at_, hrow, ?_⟩
        have hoc := ok.2.2.2.1.2 _ (List.getElem_mem hi')
        have hstep := fun s2 L2 rs => hP.step (s2 := s2) (L2 := L2) (rs := rs) hle hPi
        have eg : (t.cons.map eCon)[i] = eCon t.cons[i] := List.getElem_map ..
        rw [eg] at hstep
        generalize t.cons[i] = c at hrow hoc hstep eg ⊢
        obtain ⟨nm, kd, cols, ⟨k, op, v, n, kids⟩, tb, refs⟩ := c
        conv => whnf
        intro id7 h7
        conv => whnf
        refine ⟨_, upd_same _ _ _, Nat.le_refl 12, ?_⟩
        conv => whnf
        have g1 := cloneS_does cols hoc.2.1.1
        have g2 := cloneS_does refs hoc.2.2.2.2.1
        have g3 := clone_does (.mk k op v n kids) hoc.2.2.1.1 (Nat.le_trans hoc.2.2.1.2 (by decide))
        refine Pw.gen fun S eS => ?_
        have hyS : Le y S := by rw [eS]; exact (Le.upd h7).up2 h7
        have q1 := hyS _ _ p1
        have q4 := hyS _ _ hP.at_
        have q7 : S id7 = some (.bx (eCon ⟨nm, kd, cols, .mk k op v n kids, tb, refs⟩)) := by rw [eS]; exact upd_same _ _ _
        clear eS
        have n41 : id4 ≠ id1 := fun e => by have := hP.at_; rw [e, p1] at this; cases this
        have n42 : id4 ≠ id2 := fun e => by have := hP.at_; rw [e, p2] at this; cases this
        have n47 : id4 ≠ id7 := fun e => by have := hP.at_; rw [e, h7] at this; cases this
        obtain ⟨Z, z1, z7, z4, hZ⟩ : ∃ Z : Sto, Z id1 = S id1 ∧ Z id7 = S id7 ∧ Z id4 = none ∧ Le Z S := ⟨fun i => if i = id1 ∨ i = id7 then S i else none, by simp, by simp, by simp [n41, n47], fun i o hi => by
          dsimp only at hi
          split at hi
          · exact hi
          · cases hi⟩
        rw [q1] at z1
        rw [q7] at z7
        refine Pw.drwS TP mixed [11, 14, 17, 18, 19, 20, 21, 22, 23, 24, 25, 26] Z (by kernel_rfl) ?_; conv => whnf
        refine ⟨_, z1, ?_⟩
        conv => whnf
        refine ⟨_, z1, ?_⟩
        conv => whnf
        refine ⟨_, z1, ?_⟩
        conv => whnf
        refine ⟨_, z7, ?_⟩
        conv => whnf
        refine ⟨_, z7, ?_⟩
        conv => whnf
        refine ⟨_, z7, ?_⟩
        conv => whnf
        refine ⟨hZ, ?_⟩
        refine Does.mono (g1 _) fun r sA hA => ?_
        have lA := hA.le
        obtain ⟨LA, aA, rfl, oA⟩ := hA.own (strC_own cols)
        conv => whnf
        refine ⟨hZ.trans lA, ?_⟩
        refine Does.mono (g2 _) fun r sB hB => ?_
        have lB := hB.le
        obtain ⟨LB, aB, rfl, oB⟩ := hB.own (strC_own refs)
        conv => whnf
        refine ⟨hZ.trans (lA.trans lB), ?_⟩
        refine Does.mono (g3 _) fun r sC hC => ?_
        obtain ⟨LC, xs, rfl, oC⟩ := hC
        have hx : xs.length = 7 := oC.fz.len
        obtain ⟨x1, x2, x3, x4, x5, x6, x7, rfl⟩ : ∃ a b c d e f g, xs = [a, b, c, d, e, f, g] := by
          match xs, hx with
          | [a, b, c, d, e, f, g], _ => exact ⟨a, b, c, d, e, f, g, rfl⟩
        have lC := (lA.trans lB).trans oC.le
        have O := (oA.app oB).app oC
        have qC := lC _ _ q4
        have zC := hZ.trans lC
        have zU : ∀ o, Le Z (upd sC id4 o) := fun o => zC.up2 z4
        have zU2 : ∀ o o', Le Z (upd (upd sC id4 o) id4 o') := fun o o' => (zU o).up2 z4
        have zU3 : ∀ o o' o2, Le Z (upd (upd (upd sC id4 o) id4 o') id4 o2) := fun o o' o2 => (zU2 o o').up2 z4
        conv => whnf
        refine ⟨zC, ?_⟩
        conv => whnf
        refine ⟨by omega, by omega, ⟨_, qC⟩, ?_⟩
        conv => whnf
        refine ⟨zC, ?_⟩
        conv => whnf
        refine ⟨zC, ?_⟩
        conv => whnf
        refine ⟨_, _, _, qC, hrow, Nat.le_of_ble_eq_true rfl, ?_⟩
        conv => whnf
        refine ⟨zU _, ?_⟩
        conv => whnf
        refine ⟨by omega, by omega, ⟨_, upd_same _ _ _⟩, ?_⟩
        conv => whnf
        refine ⟨zU _, ?_⟩
        conv => whnf
        refine ⟨zU _, ?_⟩
        conv => whnf
        refine ⟨_, _, _, upd_same _ _ _, set_at hrow, Nat.le_of_ble_eq_true rfl, ?_⟩
        conv => whnf
        refine ⟨zU2 _ _, ?_⟩
        conv => whnf
        refine ⟨by omega, by omega, ⟨_, upd_same _ _ _⟩, ?_⟩
        conv => whnf
        refine ⟨zU2 _ _, ?_⟩
        conv => whnf
        refine ⟨zU2 _ _, ?_⟩
        conv => whnf
        refine ⟨_, _, _, upd_same _ _ _, set_at (set_at hrow), Nat.le_of_ble_eq_true rfl, ?_⟩
        conv => whnf
        refine ⟨zU3 _ _ _, ?_⟩
        conv => whnf
        generalize hF : upd (upd (upd sC id4 _) id4 _) id4 _ = F
        rw [upd_upd, upd_upd, List.set_set, List.set_set, set_mid hP.len (by omega), if_pos hPi] at hF
        refine ⟨hi', rfl, ⟨rfl, rfl, rfl, rfl, trivial⟩, F, trivial, .refl _, ?_⟩
        -- what the row came to
        have hO : Own RT0 y sC ((LA.or LB).or LC) (RT0 12) [.v (.string nm), .v (.int .i64 kd), aA, x1, x2, x3, x4, x5, x6, x7, .v (.string tb), aB] (eCon ⟨nm, kd, cols, .mk k op v n kids, tb, refs⟩) := by
          refine ⟨hyS.trans lC, fun j p hj => hyS.none (O.new j p hj), O.ty, ?_, ?_⟩
          · cases O.fz with | cons f1 r => cases r with | cons f2 r => exact .cons (.refl _) (.cons (.refl _) (.cons f1 (F2.append r (.cons (.refl _) (.cons f2 .nil)))))
          · cases O.ok with | cons f1 r => cases r with | cons f2 r => exact .cons ⟨_, rfl⟩ (.cons ⟨_, rfl⟩ (.cons f1 (F2.append r (.cons ⟨_, rfl⟩ (.cons f2 .nil)))))
        have hs := hstep _ _ _ hO rfl
        have hF' : F = upd sC id4 (.ar 12 (rows ++ [.v (.string nm), .v (.int .i64 kd), aA, x1, x2, x3, x4, x5, x6, x7, .v (.string tb), aB] :: (t.cons.map eCon).drop (i + 1))) := hF.symm
        rw [← hF'] at hs
        have hle3 : Le st F := by rw [hF']; exact (hle.trans (hyS.trans lC)).up2 hn4
        exact ⟨hle3, h1, h2', by rw [hF', upd_ne _ n41.symm]; exact lC _ _ q1, by rw [hF', upd_ne _ n42.symm]; exact lC _ _ (hyS _ _ p2), .inr ⟨id4, _, _, rfl, hn4, hs⟩⟩
      · obtain rfl : i = t.cons.length := by omega
        exact ⟨⟨rfl, rfl, trivial⟩, y, trivial, .refl _, hJ⟩
  obtain ⟨L, o⟩ := hJ.own fun r hr => by obtain ⟨x, _, rfl⟩ := List.mem_map.1 hr; exact eCon_length x
  obtain ⟨hley, _, _, p1, p2, _⟩ := hJ
  clear o1 o2 l1 l3 hle2 c1 c2 b1 b2 hle hB hLn1 hLn2
  refine Pw.of TP [9] ?_
  conv => whnf
  refine ⟨_, p1, ?_⟩
  conv => whnf
  refine Does.mono (cloneIx_does t.idx ok.2.2.2.2.1 _) fun r s6 hc => ?_
  have hc : CL y s6 2 (t.idx.map eIx) r := hc
  have l6 := hc.le
  have key : ∃ c5, r = .c c5 ∧ CI st id1 id2 t a1 c4 c5 0 (upd s6 id1 (.bx [.v (.string t.name), .v (.string t.owner), .v (.int .i64 t.version), a1, c4, c5])) := by
    have q1 : ∀ o, Le st (upd s6 id1 o) := fun o => (hley.trans l6).up2 h1
    have q2 : ∀ o, upd s6 id1 o id2 = some (.bx zT) := fun o => (upd_ne _ hne.symm).trans (l6 _ _ p2)
    have hLn : L id1 = none := typd_bx o.ty p1
    have kp : ∀ o j ob, L.dom j = true → y j = some ob → upd s6 id1 o j = some ob := fun o j ob hj hs => by
      rw [upd_ne _ (fun e => by subst e; unfold Tab.dom at hj; rw [hLn] at hj; cases hj)]; exact l6 _ _ hs
    rcases hc with ⟨h0, rfl, rfl⟩ | ⟨id5, h5, rfl, rfl⟩
    · exact ⟨_, rfl, q1 _, upd_same _ _ _, q2 _, .inl ⟨List.map_eq_nil_iff.1 h0, rfl, L, o.keep (q1 _) fun j p ob hj hs => kp _ j ob (by unfold Tab.dom; rw [hj]; rfl) hs⟩⟩
    · have hn5 : id5 ≠ id1 := fun e => by subst e; rw [p1] at h5; cases h5
      exact ⟨_, rfl, q1 _, upd_same _ _ _, q2 _, .inr ⟨id5, L, [], rfl, hley.none h5, InPl.start o h5 (kp _) ((upd_ne _ hn5).trans (upd_same _ _ _))⟩⟩
  clear hc
  obtain ⟨c5, rfl, hI⟩ := key
  conv => whnf
  refine ⟨_, l6 _ _ p1, Nat.le_of_ble_eq_true rfl, ?_⟩
  conv => whnf
  generalize hs7 : upd s6 id1 _ = s7
  have hI : CI st id1 id2 t a1 c4 c5 0 s7 := by rw [← hs7]; exact hI
  clear hs7 p1 p2 l6 o
  refine Pw.cut (τ := Sto) [1, 2] (fun _ => []) (fun y => y) (fun y => CI st id1 id2 t a1 c4 c5 t.idx.length y) (Pw.of TP [] ?_) fun y hI => Pw.of TP [] ?_
  · conv => whnf
    refine ⟨_, hI.2.1, ?_⟩
    have hI' := hI
    obtain ⟨_, _, _, ⟨e0, rfl, _⟩ | ⟨id5, L, rows, rfl, _⟩⟩ := hI'
    · conv => whnf
      refine Pw.rngS (τ := Unit) 55 0 (Nat.zero_le _) [1, 2, 53, 54] (fun _ _ => []) (fun _ _ => s7) (fun _ _ => True) () rfl ⟨⟩ (.refl _) trivial fun i _ hi _ => Pw.of TP [] ?_
      conv => whnf
      refine ⟨fun h => absurd h (show ¬ (i : Int) < ((0 : Nat) : Int) by omega), fun _ => ?_⟩
      conv => whnf
      exact ⟨⟨rfl, rfl, trivial⟩, s7, trivial, .refl _, by rw [e0]; exact hI⟩
    · conv => whnf
      refine Pw.rngS (τ := Sto) 55 t.idx.length (big12 ok.2.2.2.2.1) [1, 2, 53, 54] (fun _ _ => []) (fun _ y => y) (fun i y => CI st id1 id2 t a1 c4 (.arr id5 0 (t.idx.map eIx).length) i y) s7 rfl ⟨⟩ (.refl _) hI fun i y hi hI => Pw.of TP [] ?_
      conv => whnf
      have el : (t.idx.map eIx).length = t.idx.length := List.length_map ..
      refine ⟨fun h => ?_, fun h => ?_⟩ <;> rw [el] at h <;> conv => whnf
      · have hi' : i < t.idx.length := by omega
        obtain ⟨hle, p1, p2, ⟨_, e, _⟩ | ⟨id5', L, rows, e, hn5, hP⟩⟩ := hI
        · cases e
        cases e
        have hPi : i < (t.idx.map eIx).length := by rw [el]; exact hi'
        have hrow : (rows ++ (t.idx.map eIx).drop i)[0 + ((i : Nat) : Int).toNat]? = some (eIx t.idx[i]) := by
          rw [Nat.zero_add, Int.toNat_natCast, List.getElem?_append_right (by rw [hP.len]; exact Nat.le_refl _), hP.len, Nat.sub_self, List.getElem?_drop, Nat.add_zero, List.getElem?_map, List.getElem?_eq_getElem hi']; rfl
        refine ⟨by omega, by omega, ⟨_, hP.at_⟩, ?_⟩
        conv => whnf
        refine ⟨_, _, _, hP.at_, hrow, ?_⟩
        have hoc := ok.2.2.2.2.2 _ (List.getElem_mem hi')
        have hstep := fun s2 L2 rs => hP.step (s2 := s2) (L2 := L2) (rs := rs) hle hPi
        have eg : (t.idx.map eIx)[i] = eIx t.idx[i] := List.getElem_map ..
        rw [eg] at hstep
        generalize t.idx[i] = c at hrow hoc hstep eg ⊢
        obtain ⟨nm, cols⟩ := c
        conv => whnf
        intro id7 h7
        conv => whnf
        refine ⟨_, upd_same _ _ _, Nat.le_refl 2, ?_⟩
        conv => whnf
        have g1 := cloneS_does cols hoc.2.1
        refine Pw.gen fun S eS => ?_
        have hyS : Le y S := by rw [eS]; exact (Le.upd h7).up2 h7
        have q1 := hyS _ _ p1
        have q4 := hyS _ _ hP.at_
        have q7 : S id7 = some (.bx (eIx ⟨nm, cols⟩)) := by rw [eS]; exact upd_same _ _ _
        clear eS
        have n41 : id5 ≠ id1 := fun e => by have := hP.at_; rw [e, p1] at this; cases this
        have n42 : id5 ≠ id2 := fun e => by have := hP.at_; rw [e, p2] at this; cases this
        have n47 : id5 ≠ id7 := fun e => by have := hP.at_; rw [e, h7] at this; cases this
        obtain ⟨Z, z1, z7, z4, hZ⟩ : ∃ Z : Sto, Z id1 = S id1 ∧ Z id7 = S id7 ∧ Z id5 = none ∧ Le Z S := ⟨fun i => if i = id1 ∨ i = id7 then S i else none, by simp, by simp, by simp [n41, n47], fun i o hi => by
          dsimp only at hi
          split at hi
          · exact hi
          · cases hi⟩
        rw [q1] at z1
        rw [q7] at z7
        refine Pw.drwS TP mixed [5, 6, 7, 8] Z (by kernel_rfl) ?_; conv => whnf
        refine ⟨_, z1, ?_⟩
        conv => whnf
        refine ⟨_, z7, ?_⟩
        conv => whnf
        refine ⟨hZ, ?_⟩
        refine Does.mono (g1 _) fun r sA hA => ?_
        have lA := hA.le
        obtain ⟨LA, aA, rfl, oA⟩ := hA.own (strC_own cols)
        have qA := lA _ _ q4
        have zA := hZ.trans lA
        have zU : ∀ o, Le Z (upd sA id5 o) := fun o => zA.up2 z4
        conv => whnf
        refine ⟨zA, ?_⟩
        conv => whnf
        refine ⟨by omega, by omega, ⟨_, qA⟩, ?_⟩
        conv => whnf
        refine ⟨zA, ?_⟩
        conv => whnf
        refine ⟨zA, ?_⟩
        conv => whnf
        refine ⟨_, _, _, qA, hrow, Nat.le_of_ble_eq_true rfl, ?_⟩
        conv => whnf
        refine ⟨zU _, ?_⟩
        conv => whnf
        generalize hF : upd sA id5 _ = F
        rw [set_mid hP.len (by omega), if_pos hPi] at hF
        refine ⟨hi', rfl, ⟨rfl, rfl, rfl, rfl, trivial⟩, F, trivial, .refl _, ?_⟩
        have hO : Own RT0 y sA LA (RT0 2) [.v (.string nm), aA] (eIx ⟨nm, cols⟩) := by
          refine ⟨hyS.trans lA, fun j p hj => hyS.none (oA.new j p hj), oA.ty, ?_, ?_⟩
          · cases oA.fz with | cons f1 r => exact .cons (.refl _) (.cons f1 .nil)
          · cases oA.ok with | cons f1 r => exact .cons ⟨_, rfl⟩ (.cons f1 .nil)
        have hs := hstep _ _ _ hO rfl
        have hF' : F = upd sA id5 (.ar 2 (rows ++ [.v (.string nm), aA] :: (t.idx.map eIx).drop (i + 1))) := hF.symm
        rw [← hF'] at hs
        have hle3 : Le st F := by rw [hF']; exact (hle.trans (hyS.trans lA)).up2 hn5
        exact ⟨hle3, by rw [hF', upd_ne _ n41.symm]; exact lA _ _ q1, by rw [hF', upd_ne _ n42.symm]; exact lA _ _ (hyS _ _ p2), .inr ⟨id5, _, _, rfl, hn5, hs⟩⟩
      · obtain rfl : i = t.idx.length := by omega
        exact ⟨⟨rfl, rfl, trivial⟩, y, trivial, .refl _, hI⟩
  obtain ⟨L5, o5⟩ := hI.own
  obtain ⟨hle5, p1, p2, _⟩ := hI
  conv => whnf
  refine ⟨_, p1, ?_⟩
  conv => whnf
  refine ⟨_, p2, Nat.le_of_ble_eq_true rfl, ?_⟩
  conv => whnf
  refine ⟨_, upd_same _ _ _, ?_⟩
  conv => whnf
  have hL2 : L5 id2 = none := typd_bx o5.ty p2
  have o6 := fun ob => o5.keep (s' := upd y id2 ob) (hle5.up2 h2') fun j p ob hj hs => by rw [upd_ne _ (fun e => by subst e; rw [hL2] at hj; cases hj)]; exact hs
  refine Fin.same rfl (.refl _) ⟨L5, _, rfl, (o6 _).le, o5.new, (o6 _).ty, .cons (.refl _) (.cons (.refl _) (.cons (.refl _) (o6 _).fz)), .cons ⟨_, rfl⟩ (.cons ⟨_, rfl⟩ (.cons ⟨_, rfl⟩ o5.ok))⟩
end Go.Proofs.Ytbmgenifdlgbmaa.D
