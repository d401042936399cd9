/- Words and contracts: a plain machine over the model, and what the functions that a law reaches come to, each for every input that its theorem names. -/
import Derived.Test.YtbmgenifdlgbmaaC4
namespace Go.Proofs.Ytbmgenifdlgbmaa.D
set_option linter.unusedVariables false
set_option linter.unusedSimpArgs false
open Go Go.Proofs.Ytbmgenifdlgbmaa.D.Pm
set_option maxRecDepth 4000
theorem sameTexts_is (l m : List ByteArray) (hl : l.length ≤ Big) : Is Try.prog 31 [.c (eS l), .c (eS m)] (vB (decide (l = m))) := by
  have e1 : (l.map strC).length = l.length := List.length_map ..
  have e2 : (m.map strC).length = m.length := List.length_map ..
  refine Is.of TP Try.func31 rfl rfl (Nat.le_of_ble_eq_true rfl) fun st => Pw.of TP [] ?_
  conv => whnf
  refine ⟨fun h => ?_, fun h => ?_⟩ <;> rw [e1, e2] at h <;> conv => whnf
  · (refine Fin.old (congrArg vB ?_) (.refl _); symm; exact decide_eq_false (fun e => by subst e; exact h rfl))
  have hlm : l.length = m.length := by omega
  refine Pw.rng (τ := Unit) 5 l.length hl [0, 1] (fun _ => []) (fun i _ => ∀ (k : Nat), k < i → l[k]? = m[k]?) () rfl ⟨⟩ (fun k hk => absurd hk (Nat.not_lt_zero k)) fun i _ hi hx => Pw.of TP [] ?_
  conv => whnf
  refine ⟨fun h => ?_, fun h => ?_⟩ <;> conv => whnf
  · have hi' := lt_map ‹_›
    have hi2 : i < m.length := by omega
    have k1 := fun F => ixm (f := strC) (F := F) hi'
    have k2 := fun F => ixm (f := strC) (F := F) hi2
    have hs : l[i] = m[i] → ∀ k, k < i + 1 → l[k]? = m[k]? := fun h k hk => by
      by_cases hki : k = i
      · subst hki; rw [List.getElem?_eq_getElem hi', List.getElem?_eq_getElem hi2, h]
      · exact hx k (by omega)
    have ha : ¬ l[i] = m[i] → ¬ l = m := fun h e => h (by subst e; rfl)
    generalize l[i] = a at k1 hs ha
    generalize m[i] = b at k2 hs ha
    refine Pw.drw TP mixed (by kernel_rfl) ?_; conv => whnf
    refine k1 _ ?_
    conv => whnf
    refine k2 _ ?_
    conv => whnf
    refine ⟨fun (h : ¬ a = b) => ?_, fun (h : ¬ ¬ a = b) => ?_⟩ <;> conv => whnf
    · (refine Fin.old (congrArg vB ?_) (.refl _); symm; exact decide_eq_false (ha h))
    · exact ⟨hi', rfl, ⟨rfl, rfl, trivial⟩, (), trivial, .refl _, hs (Classical.not_not.1 h)⟩
  obtain rfl := nlt_map ‹_› hi
  (refine Fin.old (congrArg vB ?_) (.refl _); symm; refine decide_eq_true (List.ext_getElem? fun k => ?_); by_cases hk : k < l.length; exact hx k hk; rw [List.getElem?_eq_none (by omega), List.getElem?_eq_none (by omega)])
/-- a table, one column less -/
def lessT (t : Tbl) (k : Nat) : Tbl := ⟨t.name, t.owner, t.version, t.cols.take k ++ t.cols.drop (k + 1), t.cons, t.idx⟩
theorem check0 {t : Tbl} (h : checkT t = 0) : namedT t = true ∧ kindsT t = true ∧ countsT t = true ∧ onceT t = true ∧ thereT t = true ∧ checksT t = 0 ∧ shapesT t = true := by
  unfold checkT at h
  repeat' split at h
  all_goals first | (exfalso; omega) | (refine ⟨?_, ?_, ?_, ?_, ?_, ?_, ?_⟩ <;> first | simp_all | omega)
theorem colT_in (t : Tbl) (s : ByteArray) : 0 ≤ colT t s ↔ s ∈ t.cols.map (·.name) := by
  have h := col_has t s
  constructor
  · intro h0
    rw [decide_eq_false (by omega)] at h
    have h2 := Bool.not_eq_false' .. |>.mp h.symm
    obtain ⟨y, hy, he⟩ := List.any_eq_true.1 h2
    rw [← of_decide_eq_true he]; exact hy
  · intro h0
    have h2 : ((t.cols.map (·.name)).any fun y => decide (y = s)) = true := List.any_eq_true.2 ⟨s, h0, decide_eq_true rfl⟩
    rw [h2] at h
    have := of_decide_eq_false h
    omega
theorem there_iff (t : Tbl) : thereT t = true ↔ ∀ s ∈ usedT t, s ∈ t.cols.map (·.name) := by
  rw [thereT, Bool.not_eq_true', List.any_eq_false]
  constructor
  · intro h s hs
    have := h s hs
    rw [← colT_in]
    simp at this; exact this
  · intro h s hs
    have := (colT_in t s).2 (h s hs)
    simp; exact this
theorem less_check (t : Tbl) (k : Nat) (hk : k < t.cols.length) (h2 : 2 ≤ t.cols.length) (h : checkT t = 0) :
    checkT (lessT t k) = if ((rusedT t).any fun y => decide (y = (t.cols[k]).name)) = true then 4 else 0 := by
  obtain ⟨g1, g2, g3, g4, g5, g6, g7⟩ := check0 h
  have hsub : (lessT t k).cols.Sublist t.cols := by
    show (t.cols.take k ++ t.cols.drop (k + 1)).Sublist t.cols
    conv => rhs; rw [← List.take_append_drop k t.cols, List.drop_eq_getElem_cons hk]
    exact List.Sublist.append (.refl _) (.cons _ (.refl _))
  have hlen : (lessT t k).cols.length = t.cols.length - 1 := by
    show (t.cols.take k ++ t.cols.drop (k + 1)).length = _
    rw [List.length_append, List.length_take, List.length_drop]; omega
  have n1 : namedT (lessT t k) = true := by
    simp only [namedT, Bool.and_eq_true, List.all_eq_true] at g1 ⊢
    exact ⟨g1.1, g1.2.1, fun c hc => g1.2.2.1 c (hsub.subset hc), g1.2.2.2⟩
  have n2 : kindsT (lessT t k) = true := by
    simp only [kindsT, Bool.and_eq_true, List.all_eq_true] at g2 ⊢
    exact ⟨g2.1, fun c hc => g2.2.1 c (hsub.subset hc), g2.2.2⟩
  have n3 : countsT (lessT t k) = true := by
    simp only [countsT, lensT, Bool.and_eq_true, decide_eq_true_eq] at g3 ⊢
    exact ⟨⟨by omega, by omega, g3.1.2.2.1, g3.1.2.2.2⟩, g3.2⟩
  have hnd : (t.cols.map (·.name)).Nodup := by
    simp only [onceT, Bool.and_eq_true, unl, decide_eq_true_eq] at g4
    exact g4.1
  have n4 : onceT (lessT t k) = true := by
    simp only [onceT, Bool.and_eq_true, unl, decide_eq_true_eq] at g4 ⊢
    exact ⟨g4.1.sublist (hsub.map _), g4.2.1, g4.2.2⟩
  have n6 : checksT (lessT t k) = 0 := g6
  have n7 : shapesT (lessT t k) = true := g7
  have hus : usedT (lessT t k) = usedT t := rfl
  have hmem : ∀ s, s ∈ (lessT t k).cols.map (·.name) ↔ s ∈ t.cols.map (·.name) ∧ s ≠ (t.cols[k]).name := by
    intro s
    have e : t.cols.map (·.name) = (t.cols.take k).map (·.name) ++ (t.cols[k]).name :: (t.cols.drop (k + 1)).map (·.name) := by
      conv => lhs; rw [← List.take_append_drop k t.cols, List.drop_eq_getElem_cons hk, List.map_append, List.map_cons]
    have e2 : (lessT t k).cols.map (·.name) = (t.cols.take k).map (·.name) ++ (t.cols.drop (k + 1)).map (·.name) := by rw [← List.map_append]; rfl
    rw [e] at hnd
    rw [e2, e, List.mem_append, List.mem_append, List.mem_cons]
    have hnd2 := List.nodup_append.1 hnd
    have hnd3 := List.nodup_cons.1 hnd2.2.1
    constructor
    · rintro (h | h)
      · exact ⟨.inl h, hnd2.2.2 s h _ (List.mem_cons_self ..)⟩
      · exact ⟨.inr (.inr h), fun e => hnd3.1 (e ▸ h)⟩
    · rintro ⟨h | h | h, hne⟩
      · exact .inl h
      · exact absurd h hne
      · exact .inr h
  rw [checkT, if_neg (by simp [n1]), if_neg (by simp [n2]), if_neg (by simp [n3]), if_neg (by simp [n4]), used_any]
  by_cases hu : ((usedT t).any fun y => decide (y = (t.cols[k]).name)) = true
  · rw [if_pos hu, if_pos]
    cases hth : thereT (lessT t k) with
    | false => rfl
    | true =>
      exfalso
      rw [there_iff] at hth
      obtain ⟨y, hy, he⟩ := List.any_eq_true.1 hu
      have := (hmem y).1 (hth y hy)
      exact this.2 (of_decide_eq_true he)
  · rw [if_neg hu]
    have n5 : thereT (lessT t k) = true := by
      rw [there_iff] at g5 ⊢
      intro s hs
      refine (hmem s).2 ⟨g5 s hs, fun e => hu (List.any_eq_true.2 ⟨s, hs, decide_eq_true e⟩)⟩
    rw [if_neg (by simp [n5]), if_neg (by simp [n6]), if_neg (by simp [n7])]
theorem okT_less {t : Tbl} (ok : okT t) (k : Nat) : okT (lessT t k) := by
  refine ⟨ok.1, ok.2.1, ⟨?_, fun c hc => ?_⟩, ok.2.2.2⟩
  · show (t.cols.take k ++ t.cols.drop (k + 1)).length ≤ 12
    have := ok.2.2.1.1
    rw [List.length_append, List.length_take, List.length_drop]; omega
  · refine ok.2.2.1.2 c ?_
    rcases List.mem_append.1 hc with h | h
    · exact List.mem_of_mem_take h
    · exact List.mem_of_mem_drop h
def tcs (t : Tbl) : List AC := [.v (.string t.name), .v (.string t.owner), .v (.int .i64 t.version), .sl 3 (t.cols.map eCl), .sl 12 (t.cons.map eCon), .sl 2 (t.idx.map eIx)]
abbrev zC : TI := ⟨.st [(0, 9), (1, 3), (2, 4)], 3, 32, [.string ⟨#[]⟩, .int .i64 0, .bool false]⟩
theorem tableRight_law (t : Tbl) (at_ : Int) (_ : wfT t) (hat : (Lit.int .u8 at_).wf = true) : Is Try.prog 6 [.g (eT t), .c (.v (.int .u8 at_))] (vB true) := by
  have el1 : (t.cols.map eCl).length = t.cols.length := List.length_map ..
  refine Is.of TP Try.func6 rfl rfl (Nat.le_of_ble_eq_true rfl) fun st => Pw.of TP [1000009] ?_
  conv => whnf
  refine Is.callB (fewT_is t) fun b hb => ?_
  cases b <;> conv => whnf
  · refine works14_is.call ?_
    conv => whnf
    exact Fin.old rfl (.refl _)
  have ok := fewT_ok t hb
  refine (tcheck_is t ok).call ?_
  conv => whnf
  refine ⟨fun h => ?_, fun h => ?_⟩ <;> conv => whnf
  · refine works14_is.call ?_
    conv => whnf
    exact Fin.old rfl (.refl _)
  have hc0 : checkT t = 0 := by omega
  obtain ⟨hl2, o2⟩ := ok.2.2.2.1
  refine Pw.rng (τ := Unit) 5 t.cons.length (big12 hl2) [1, 2] (fun _ => []) (fun i _ => True) () rfl ⟨⟩ trivial fun i _ hi hx => Pw.of TP [] ?_
  conv => whnf
  refine ⟨fun h => ?_, fun h => ?_⟩ <;> conv => whnf
  · have hi' := lt_map ‹_›
    have k2 := fun F => ixm (f := eCon) (F := F) hi'
    have hoc := o2 _ (List.getElem_mem hi')
    have hp : (placesT t t.cons[i].cols).2 = 0 := by
      rw [placesT, if_pos]
      refine List.all_eq_true.2 fun s hs => decide_eq_true ((colT_in t s).2 ?_)
      refine (there_iff t).1 (check0 hc0).2.2.2.2.1 s ?_
      rw [usedT, List.mem_append, List.mem_flatMap]
      exact .inl ⟨_, List.getElem_mem hi', by rw [usedC, List.mem_append]; exact .inl hs⟩
    have hn : ((namesT t).any fun y => decide (y = t.cons[i].name)) = true := List.any_eq_true.2 ⟨_, by rw [namesT, List.mem_append]; exact .inl (List.mem_map.2 ⟨_, List.getElem_mem hi', rfl⟩), decide_eq_true rfl⟩
    have c1 := places_is t ok t.cons[i].cols hoc.2.1.1
    have c2 := named14_is t ok t.cons[i].name
    rw [hn] at c2
    generalize t.cons[i] = c at k2 c1 c2 hp
    clear hoc hn
    obtain ⟨nm, kd, cols, ⟨k, op, v, n, kids⟩, tb, refs⟩ := c
    simp only at c1 c2 hp
    generalize placesT t cols = pl at c1 hp
    obtain ⟨pl, e⟩ := pl
    simp only at hp
    subst hp
    refine Pw.drw TP mixed (by kernel_rfl) ?_; conv => whnf
    refine k2 _ ?_
    conv => whnf
    refine Is.draw c1 ?_
    conv => whnf
    refine Pw.drw TP mixed (by kernel_rfl) ?_; conv => whnf
    refine ⟨fun h => absurd rfl h, fun _ => ?_⟩
    conv => whnf
    refine k2 _ ?_
    conv => whnf
    refine Is.draw c2 ?_
    conv => whnf
    exact ⟨hi', rfl, ⟨rfl, rfl, trivial⟩, (), trivial, .refl _, trivial⟩
  clear hx
  refine ⟨fun h => ?_, fun h => ?_⟩ <;> rw [el1] at h <;> conv => whnf
  · refine works14_is.call ?_
    conv => whnf
    exact Fin.old rfl (.refl _)
  have h2 : 2 ≤ t.cols.length := by omega
  refine ⟨rfl, ?_⟩
  conv => whnf
  refine ⟨by rw [el1]; omega, ?_⟩
  have hk : ∃ k : Nat, k < t.cols.length ∧ (IntKind.i64.wrap at_).tmod ((t.cols.map eCl).length : Nat) = (k : Int) := by
    have hw : 0 ≤ at_ ∧ at_ ≤ 255 := by
      have := hat
      simp [Lit.wf, IntKind.min, IntKind.max, IntKind.signed, IntKind.bits] at this
      omega
    rw [el1, wrap_id (by omega) (by omega), Int.tmod_eq_emod_of_nonneg hw.1]
    have h3 := Int.emod_nonneg at_ (show (t.cols.length : Int) ≠ 0 by omega)
    have h4 := Int.emod_lt_of_pos at_ (show (0 : Int) < t.cols.length by omega)
    exact ⟨(at_ % (t.cols.length : Int)).toNat, by omega, by omega⟩
  obtain ⟨k, hk1, hk2⟩ := hk
  rw [hk2]
  clear hk2
  have hcol := ok.2.2.1.1
  conv => whnf
  intro id hid
  conv => whnf
  refine ⟨_, upd_same _ _ _, Nat.le_of_ble_eq_true rfl, ?_⟩
  conv => whnf
  have hb0 : upd (upd st id (.bx ([.string ⟨#[]⟩, .string ⟨#[]⟩, .int .i64 0, .slice none 0 0, .slice none 0 0, .slice none 0 0].map AC.v))) id (.bx (tcs t)) id = some (.bx (tcs t)) := upd_same _ _ _
  have hle0 : Le st (upd (upd st id (.bx ([.string ⟨#[]⟩, .string ⟨#[]⟩, .int .i64 0, .slice none 0 0, .slice none 0 0, .slice none 0 0].map AC.v))) id (.bx (tcs t))) := (Le.upd hid).up2 hid
  refine Pw.drwC TP mixed [0, 5, 11, 12, 13] (by kernel_rfl) ?_; conv => whnf
  refine ⟨by omega, by omega, by rw [el1]; omega, ?_⟩
  conv => whnf
  have w1 : IntKind.i64.wrap ((k : Int) + 1) = ((k + 1 : Nat) : Int) := wrap_nat (Nat.le_of_lt hk1) (big12 hcol)
  rw [w1]
  refine ⟨by omega, by rw [el1]; omega, by omega, ?_⟩
  conv => whnf
  intro id2 hid2
  conv => whnf
  have et : (((t.cols.map eCl).take (k : Int).toNat).drop (0 : Int).toNat) = (t.cols.take k).map eCl := by rw [Int.toNat_natCast, List.map_take]; rfl
  have ed : ((((t.cols.map eCl).take (((t.cols.map eCl).length : Nat) : Int).toNat)).drop ((k + 1 : Nat) : Int).toNat) = (t.cols.drop (k + 1)).map eCl := by rw [Int.toNat_natCast, Int.toNat_natCast, List.take_length, List.map_drop]
  refine Grow.app (z := zC) (st0 := st) (rows := []) ⟨hle0.up hid2, .inr ⟨id2, rfl, upd_same _ _ _, hle0.none hid2⟩⟩ ?_ ?_ fun a3 st3 hg3 hk3 => ?_
  · rw [et, List.length_map, List.length_take]; unfold maxLen; simp; omega
  · rw [et, List.length_map, List.length_take]; simp; omega
  rw [et, List.nil_append] at hg3
  conv => whnf
  refine Grow.app (z := zC) hg3 ?_ ?_ fun a4 st4 hg4 hk4 => ?_
  · rw [ed, List.length_map, List.length_map, List.length_take, List.length_drop]; unfold maxLen; omega
  · rw [ed, List.length_map, List.length_map, List.length_take, List.length_drop]; simp; omega
  rw [ed, ← List.map_append] at hg4
  have hg : Grow st 3 st4 a4 ((lessT t k).cols.map eCl) := hg4
  have hs1 := hk3 id _ (upd_old (o' := .ar 3 []) hid2 hb0) (fun n e => fresh_ne hid2 hb0 (by cases e; rfl))
  have hs2 : st4 id = some (.bx (tcs t)) := hk4 id _ hs1 (fun n e => by
    subst e
    rcases hg3.2 with ⟨h1, _⟩ | ⟨i, h1, h2, _⟩
    · cases h1
    · cases h1; rw [hs1] at h2; cases h2)
  clear hg4 hk4 hk3 hs1 hg3 hb0 hid2 et ed w1
  conv => whnf
  refine ⟨_, hs2, Nat.le_of_ble_eq_true rfl, ?_⟩
  conv => whnf
  have hle : Le st (upd st4 id (.bx (putAt (tcs t) 3 [a4]))) := hg.1.up2 hid
  have k2 := fun F => ixm (f := eCl) (F := F) hk1
  have c1 := uses_is t ok (t.cols[k]).name
  have hless := less_check t k hk1 h2 hc0
  have c2 := tcheck_is (lessT t k) (okT_less ok k)
  rw [hless] at c2
  generalize t.cols[k] = c at k2 c1 c2 hless
  generalize ((rusedT t).any fun y => decide (y = c.name)) = ub at c1 c2 hless
  have hD : ∃ D : Nat → Bool, Fz D (upd st4 id (.bx (putAt (tcs t) 3 [a4]))) a4 (.sl 3 ((lessT t k).cols.map eCl)) ∧ ∀ i, D i = true → st i = none ∧ i ≠ id := by
    rcases hg.2 with ⟨e1, h⟩ | ⟨i, rfl, h2, h3⟩
    · subst e1
      rw [h]
      exact ⟨fun _ => false, .nil 3, fun i hi => by cases hi⟩
    · have hne : i ≠ id := fun e => by rw [e, hs2] at h2; cases h2
      refine ⟨only i, Fz.arr0 (by simp [only]) (by rw [upd_ne _ hne]; exact h2) (fun r hr => ?_), fun j hj => ?_⟩
      · obtain ⟨x, _, rfl⟩ := List.mem_map.1 hr; rfl
      · have : j = i := by simpa [only] using hj
        rw [this]; exact ⟨h3, hne⟩
  obtain ⟨D, hf, hd⟩ := hD
  have hD2 : ∀ i o, upd st id (.bx (putAt (tcs t) 3 [a4])) i = some o → (upd st4 id (.bx (putAt (tcs t) 3 [a4]))) i = some o ∧ D i = false := fun i o ho => by
    by_cases hi : i = id
    · subst hi
      rw [upd_same] at ho ⊢
      refine ⟨ho, ?_⟩
      cases h : D i with
      | false => rfl
      | true => exact absurd rfl (hd i h).2
    · rw [upd_ne _ hi] at ho
      refine ⟨hle i o ho, ?_⟩
      cases h : D i with
      | false => rfl
      | true => rw [(hd i h).1] at ho; cases ho
  refine Pw.drw TP mixed (by kernel_rfl) ?_; conv => whnf
  refine k2 _ ?_
  conv => whnf
  refine Is.draw c1 ?_
  have nl : Is Try.prog 31 [.c (eS [t.name]), .c (eS [t.name])] (vB true) := (sameTexts_is [t.name] [t.name] (show 1 ≤ Big by decide)).eq (by rw [decide_eq_true rfl])
  cases ub <;> conv => whnf
  all_goals refine ⟨_, upd_same _ _ _, ?_⟩
  all_goals conv => whnf
  all_goals refine Does.argsD (as' := [.g (eT (lessT t k))]) (st' := upd st id (.bx (putAt (tcs t) 3 [a4]))) D hD2 rfl (fun j r r' q1 q2 => ?_) (c2.call ?_)
  all_goals first
    | (match j, q1, q2 with
      | 0, q1, q2 => cases q1; cases q2; exact .gl (.cons (.refl _) (.cons (.refl _) (.cons (.refl _) (.cons hf (.cons (.refl _) (.cons (.refl _) .nil))))))
      | j + 1, q1, q2 => simp at q2)
    | skip
  all_goals conv => whnf
  all_goals refine ⟨fun _ => ?_, fun h => absurd rfl h⟩
  all_goals conv => whnf
  all_goals refine ⟨_, upd_same _ _ _, ?_⟩
  all_goals conv => whnf
  all_goals refine nl.call ?_
  all_goals conv => whnf
  all_goals refine works14_is.call ?_
  all_goals conv => whnf
  all_goals exact Fin.old rfl (.upd hid)
end Go.Proofs.Ytbmgenifdlgbmaa.D
