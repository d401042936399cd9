/- Words and contracts: a plain machine over the model, and what the functions that a law reaches come to, each for every input that its theorem names. -/
import Derived.Test.YtgbdhakkgnmeoaaGreatK4
namespace Go.Proofs.YtgbdhakkgnmeoaaGreat.D
set_option linter.unusedVariables false
set_option linter.unusedSimpArgs false
open Go Go.Proofs.YtgbdhakkgnmeoaaGreat.D.Pm
set_option maxRecDepth 4000
theorem ixSt {l : List St} {j : Nat} {F : List AC → Prop} (h : j < l.length) (k : F (eSt l[j])) : 0 ≤ (j : Int) ∧ (j : Int) < ((eSts l).length : Nat) ∧ ∃ r, (eSts l)[(j : Int).toNat]? = some r ∧ F r := by
  rw [eSts_map]; exact ixm h k
theorem ltSt {l : List St} {j : Nat} (h : (j : Int) < ((eSts l).length : Nat)) : j < l.length := by rw [eSts_map] at h; exact lt_map h
theorem nltSt {l : List St} {j : Nat} (h : ¬ (j : Int) < ((eSts l).length : Nat)) (hj : j ≤ l.length) : j = l.length := by rw [eSts_map] at h; exact nlt_map h hj
theorem eSts_len (l : List St) : (eSts l).length = l.length := by rw [eSts_map, List.length_map]
set_option maxHeartbeats 2000000 in
theorem rsame12_is : ∀ a, okSt a → ∀ b, Is Tryz.prog 8 [.g (eSt a), .g (eSt b)] (vB (eqSt a b)) := by
  refine St.ind fun k tb nm rl cols cons ns rows wh sets ord lim pr op kids ih ok b => ?_
  obtain ⟨k', tb', nm', rl', cols', cons', ns', rows', wh', sets', ord', lim', pr', op', kids'⟩ := b
  rw [okSt] at ok
  obtain ⟨ok1, ok2, ok3, ok4, ok5, ok6, ok7, ok8, ok9⟩ := ok
  have e1 : (cols.map eCl).length = cols.length := List.length_map ..
  have e1' : (cols'.map eCl).length = cols'.length := List.length_map ..
  have e2 : (cons.map eCon).length = cons.length := List.length_map ..
  have e2' : (cons'.map eCon).length = cons'.length := List.length_map ..
  have e4 : (rows.map eRow).length = rows.length := List.length_map ..
  have e4' : (rows'.map eRow).length = rows'.length := List.length_map ..
  have e6 : (sets.map eSet).length = sets.length := List.length_map ..
  have e6' : (sets'.map eSet).length = sets'.length := List.length_map ..
  have e7 : (ord.map eOrd).length = ord.length := List.length_map ..
  have e7' : (ord'.map eOrd).length = ord'.length := List.length_map ..
  have e8 := eSts_len kids
  have e8' := eSts_len kids'
  have h2 := rsameTexts_is ns ns' (big12 ok3)
  have h5 := rsame_is wh ok5 wh'
  have ee := eqSt.eq_1 k tb nm rl cols cons ns rows wh sets ord lim pr op kids k' tb' nm' rl' cols' cons' ns' rows' wh' sets' ord' lim' pr' op' kids'
  rw [eqSts_eq] at ee
  generalize eqSt _ _ = R at ee ⊢
  generalize eqL eqStr ns ns' = p2 at h2 ee
  generalize eqE wh wh' = p5 at h5 ee
  have n1 : ¬ k = k' → R = false := fun h => by rw [ee, decide_eq_false h]; rfl
  have n2 : ¬ tb = tb' → R = false := fun h => by rw [ee, decide_eq_false h]; simp
  have n3 : ¬ nm = nm' → R = false := fun h => by rw [ee, decide_eq_false h]; simp
  have n4 : ¬ rl = rl' → R = false := fun h => by rw [ee, decide_eq_false h]; simp
  have n5 : ¬ lim = lim' → R = false := fun h => by rw [ee, decide_eq_false h]; simp
  have n6 : ¬ pr = pr' → R = false := fun h => by rw [ee, decide_eq_false h]; simp
  have n7 : ¬ op = op' → R = false := fun h => by rw [ee, decide_eq_false h]; simp
  have m1 : eqL eqCl cols cols' = false → R = false := fun h => by rw [ee, h]; simp
  have m2 : p2 = false → R = false := fun h => by rw [ee, h]; simp
  have m3 : eqL eqCon cons cons' = false → R = false := fun h => by rw [ee, h]; simp
  have m4 : eqL (eqL eqE) rows rows' = false → R = false := fun h => by rw [ee, h]; simp
  have m5 : p5 = false → R = false := fun h => by rw [ee, h]; simp
  have m6 : eqL eqSet sets sets' = false → R = false := fun h => by rw [ee, h]; simp
  have m7 : eqL eqOrd ord ord' = false → R = false := fun h => by rw [ee, h]; simp
  have m8 : eqL eqSt kids kids' = false → R = false := fun h => by rw [ee, h]; simp
  have yes : k = k' → tb = tb' → nm = nm' → rl = rl' → lim = lim' → pr = pr' → op = op' → eqL eqCl cols cols' = true → p2 = true → eqL eqCon cons cons' = true → eqL (eqL eqE) rows rows' = true → p5 = true → eqL eqSet sets sets' = true → eqL eqOrd ord ord' = true → eqL eqSt kids kids' = true → R = true := fun a1 a2 a3 a4 a5 a6 a7 b1 b2 b3 b4 b5 b6 b7 b8 => by
    rw [ee, b1, b2, b3, b4, b5, b6, b7, b8]; simp [*]
  clear ee ok5
  obtain ⟨q1, q2, q3, q4, q5⟩ := wh
  obtain ⟨r1, r2, r3, r4, r5⟩ := wh'
  refine Is.of TP Tryz.func8 rfl rfl (Nat.le_of_ble_eq_true rfl) fun st => Pw.of TP [1] ?_
  conv => whnf
  refine Pw.cut (τ := Unit) [2, 3] (fun _ => []) (fun _ => st) (fun _ => k = k' ∧ tb = tb' ∧ nm = nm' ∧ rl = rl' ∧ lim = lim' ∧ pr = pr' ∧ op = op') (Pw.of TP [] ?_) fun _ hb => ?_
  · clear ih
    cases op <;> cases op'
    all_goals conv => whnf
    all_goals repeat' (first | (refine ⟨fun h => ?_, fun h => ?_⟩ <;> conv => whnf) | fail)
    all_goals first
      | (refine Fin.old (congrArg vB ?_) (.refl _); first | exact (n1 ‹_›).symm | exact (n2 ‹_›).symm | exact (n3 ‹_›).symm | exact (n4 ‹_›).symm | exact (n5 ‹_›).symm | exact (n6 ‹_›).symm | exact (n7 (by decide)).symm)
      | exact ⟨⟨rfl, rfl, trivial⟩, (), trivial, .refl _, Classical.not_not.1 ‹_›, Classical.not_not.1 ‹_›, Classical.not_not.1 ‹_›, Classical.not_not.1 ‹_›, Classical.not_not.1 ‹_›, Classical.not_not.1 ‹_›, rfl⟩
  obtain ⟨g1, g2, g3, g4, g5, g6, g7⟩ := hb
  refine Pw.cut (τ := Unit) [2, 3] (fun _ => []) (fun _ => st) (fun _ => cols.length = cols'.length ∧ cons.length = cons'.length ∧ rows.length = rows'.length ∧ sets.length = sets'.length ∧ ord.length = ord'.length ∧ kids.length = kids'.length) (Pw.of TP [] ?_) fun _ hb => ?_
  · clear ih
    conv => whnf
    repeat' (first | (refine ⟨fun h => ?_, fun h => ?_⟩ <;> conv => whnf) | fail)
    all_goals first
      | (refine Fin.old (congrArg vB ?_) (.refl _); first | exact (m1 (eqL_len (by omega))).symm | exact (m3 (eqL_len (by omega))).symm | exact (m4 (eqL_len (by omega))).symm | exact (m6 (eqL_len (by omega))).symm | exact (m7 (eqL_len (by omega))).symm | exact (m8 (eqL_len (by omega))).symm)
      | exact ⟨⟨rfl, rfl, trivial⟩, (), trivial, .refl _, by omega, by omega, by omega, by omega, by omega, by omega⟩
  obtain ⟨l1, l3, l4, l6, l7, l8⟩ := hb
  refine Pw.cut (τ := Unit) [2, 3] (fun _ => []) (fun _ => st) (fun _ => p2 = true ∧ p5 = true) (Pw.of TP [] ?_) fun _ hb => Pw.of TP [] ?_
  · clear ih
    conv => whnf
    refine Is.callB h2 fun b hb => ?_
    cases b <;> conv => whnf
    · exact Fin.old (congrArg vB (m2 hb).symm) (.refl _)
    refine Is.callB h5 fun b hb5 => ?_
    cases b <;> conv => whnf
    · exact Fin.old (congrArg vB (m5 hb5).symm) (.refl _)
    · exact ⟨⟨rfl, rfl, trivial⟩, (), trivial, .refl _, hb, hb5⟩
  obtain ⟨b2, b5⟩ := hb
  clear h2 h5 n1 n2 n3 n4 n5 n6 n7 m2 m5
  conv => whnf
  refine Pw.rng (τ := Unit) 5 cols.length (big12 ok1) [2, 3] (fun _ => []) (fun i _ => ∀ (j : Nat), j < i → ∀ (h : j < cols.length) (h' : j < cols'.length), eqCl cols[j] cols'[j] = true) () rfl ⟨⟩ (by intro j h; omega) fun i _ hi hx => Pw.of TP [] ?_
  conv => whnf
  refine ⟨fun h => ?_, fun h => ?_⟩ <;> conv => whnf
  · have hi' := lt_map ‹_›
    have hi2 : i < cols'.length := by omega
    have k1 := fun F => ixm (f := eCl) (F := F) hi'
    have k2 := fun F => ixm (f := eCl) (F := F) hi2
    have h1 := eqL_no (f := eqCl) hi' hi2
    have h2 : eqCl cols[i] cols'[i] = true → ∀ (j : Nat), j < i + 1 → ∀ (h : j < cols.length) (h' : j < cols'.length), eqCl cols[j] cols'[j] = true := fun he j hj h h' => by
      by_cases hji : j = i
      · subst hji; exact he
      · exact hx j (by omega) h h'
    skip
    generalize cols[i] = c at k1 h1 h2
    generalize cols'[i] = d at k2 h1 h2
    obtain ⟨na, ya, qa⟩ := c
    obtain ⟨nb, yb, qb⟩ := d
    refine Pw.drw TP mixed (by kernel_rfl) ?_; conv => whnf
    refine k1 _ ?_
    conv => whnf
    refine k2 _ ?_
    conv => whnf
    refine ⟨fun (h : ¬ (na = nb ∧ ya = yb ∧ qa = qb ∧ True)) => ?_, fun (h : ¬ ¬ (na = nb ∧ ya = yb ∧ qa = qb ∧ True)) => ?_⟩ <;> conv => whnf
    · (refine Fin.old (congrArg vB ?_) (.refl _); rw [m1 (h1 (decide_eq_false fun q => h ⟨q.1, q.2.1, q.2.2, trivial⟩))])
    · exact ⟨hi', rfl, ⟨rfl, rfl, trivial⟩, (), trivial, .refl _, h2 (decide_eq_true (by have q := Classical.not_not.1 h; exact ⟨q.1, q.2.1, q.2.2.1⟩))⟩
  obtain rfl := nlt_map ‹_› hi
  have b1 := eqL_all l1 fun i h h' => hx i h h h'
  clear hx
  refine Pw.rng (τ := Unit) 6 cons.length (big12 ok2.1) [2, 3] (fun _ => []) (fun i _ => ∀ (j : Nat), j < i → ∀ (h : j < cons.length) (h' : j < cons'.length), eqCon cons[j] cons'[j] = true) () rfl ⟨⟩ (by intro j h; omega) fun i _ hi hx => Pw.of TP [] ?_
  conv => whnf
  refine ⟨fun h => ?_, fun h => ?_⟩ <;> conv => whnf
  · have hi' := lt_map ‹_›
    have hi2 : i < cons'.length := by omega
    have k1 := fun F => ixm (f := eCon) (F := F) hi'
    have k2 := fun F => ixm (f := eCon) (F := F) hi2
    have h1 := eqL_no (f := eqCon) hi' hi2
    have h2 : eqCon cons[i] cons'[i] = true → ∀ (j : Nat), j < i + 1 → ∀ (h : j < cons.length) (h' : j < cons'.length), eqCon cons[j] cons'[j] = true := fun he j hj h h' => by
      by_cases hji : j = i
      · subst hji; exact he
      · exact hx j (by omega) h h'
    have hm := rsameCons_is cons[i] cons'[i] (ok2.2 _ (List.getElem_mem hi'))
    generalize cons[i] = c at k1 h1 h2 hm
    generalize cons'[i] = d at k2 h1 h2 hm
    generalize eqCon c d = e at h1 h2 hm
    obtain ⟨nx, yx, cx, ⟨k1', o1, v1, m1, l1'⟩, tx, rx⟩ := c
    obtain ⟨ny, yy, cy, ⟨k2', o2, v2, m2, l2'⟩, ty, ry⟩ := d
    refine Pw.drw TP mixed (by kernel_rfl) ?_; conv => whnf
    refine k1 _ ?_
    conv => whnf
    refine k2 _ ?_
    conv => whnf
    refine Is.drawB hm fun q hq => ?_
    cases q <;> conv => whnf
    · (refine Fin.old (congrArg vB ?_) (.refl _); rw [m3 (h1 hq)])
    · exact ⟨hi', rfl, ⟨rfl, rfl, trivial⟩, (), trivial, .refl _, h2 hq⟩
  obtain rfl := nlt_map ‹_› hi
  have b3 := eqL_all l3 fun i h h' => hx i h h h'
  clear hx
  refine Pw.rng (τ := Unit) 7 rows.length (big12 ok4.1) [2, 3] (fun _ => []) (fun i _ => ∀ (j : Nat), j < i → ∀ (h : j < rows.length) (h' : j < rows'.length), (eqL eqE) rows[j] rows'[j] = true) () rfl ⟨⟩ (by intro j h; omega) fun i _ hi hx => Pw.of TP [] ?_
  conv => whnf
  refine ⟨fun h => ?_, fun h => ?_⟩ <;> conv => whnf
  · have hi' := lt_map ‹_›
    have hi2 : i < rows'.length := by omega
    have k1 := fun F => ixm (f := eRow) (F := F) hi'
    have k2 := fun F => ixm (f := eRow) (F := F) hi2
    have h1 := eqL_no (f := (eqL eqE)) hi' hi2
    have h2 : (eqL eqE) rows[i] rows'[i] = true → ∀ (j : Nat), j < i + 1 → ∀ (h : j < rows.length) (h' : j < rows'.length), (eqL eqE) rows[j] rows'[j] = true := fun he j hj h h' => by
      by_cases hji : j = i
      · subst hji; exact he
      · exact hx j (by omega) h h'
    have hm := sameList_is rows[i] rows'[i] (big12 (ok4.2 _ (List.getElem_mem hi')).1) (fun e he e' => rsame_is e ((ok4.2 _ (List.getElem_mem hi')).2 e he) e')
    generalize rows[i] = c at k1 h1 h2 hm
    generalize rows'[i] = d at k2 h1 h2 hm
    generalize eqL eqE c d = e at h1 h2 hm
    skip
    refine Pw.drw TP mixed (by kernel_rfl) ?_; conv => whnf
    refine k1 _ ?_
    conv => whnf
    refine k2 _ ?_
    conv => whnf
    refine Is.drawB hm fun q hq => ?_
    cases q <;> conv => whnf
    · (refine Fin.old (congrArg vB ?_) (.refl _); rw [m4 (h1 hq)])
    · exact ⟨hi', rfl, ⟨rfl, rfl, trivial⟩, (), trivial, .refl _, h2 hq⟩
  obtain rfl := nlt_map ‹_› hi
  have b4 := eqL_all l4 fun i h h' => hx i h h h'
  clear hx
  refine Pw.rng (τ := Unit) 8 sets.length (big12 ok6.1) [2, 3] (fun _ => []) (fun i _ => ∀ (j : Nat), j < i → ∀ (h : j < sets.length) (h' : j < sets'.length), eqSet sets[j] sets'[j] = true) () rfl ⟨⟩ (by intro j h; omega) fun i _ hi hx => Pw.of TP [] ?_
  conv => whnf
  refine ⟨fun h => ?_, fun h => ?_⟩ <;> conv => whnf
  · have hi' := lt_map ‹_›
    have hi2 : i < sets'.length := by omega
    have k1 := fun F => ixm (f := eSet) (F := F) hi'
    have k2 := fun F => ixm (f := eSet) (F := F) hi2
    have h1 := eqL_no (f := eqSet) hi' hi2
    have h2 : eqSet sets[i] sets'[i] = true → ∀ (j : Nat), j < i + 1 → ∀ (h : j < sets.length) (h' : j < sets'.length), eqSet sets[j] sets'[j] = true := fun he j hj h h' => by
      by_cases hji : j = i
      · subst hji; exact he
      · exact hx j (by omega) h h'
    have hm := rsame_is sets[i].e (ok6.2 _ (List.getElem_mem hi')) sets'[i].e
    have he : eqSet sets[i] sets'[i] = (decide (sets[i].name = sets'[i].name) && eqE sets[i].e sets'[i].e) := rfl
    rw [he] at h1 h2
    clear he
    generalize sets[i] = c at k1 h1 h2 hm
    generalize sets'[i] = d at k2 h1 h2 hm
    obtain ⟨nx, cx⟩ := c
    obtain ⟨ny, cy⟩ := d
    dsimp only at h1 h2 hm
    generalize eqE cx cy = e at h1 h2 hm
    obtain ⟨w1, w2, w3, w4, w5⟩ := cx
    obtain ⟨x1, x2, x3, x4, x5⟩ := cy
    refine Pw.drw TP mixed (by kernel_rfl) ?_; conv => whnf
    refine k1 _ ?_
    conv => whnf
    refine k2 _ ?_
    conv => whnf
    refine ⟨fun h => ?_, fun h => ?_⟩ <;> conv => whnf
    · (refine Fin.old (congrArg vB ?_) (.refl _); rw [m6 (h1 (by rw [decide_eq_false h]; rfl))])
    · refine k1 _ ?_
      conv => whnf
      refine k2 _ ?_
      conv => whnf
      refine Is.drawB hm fun q hq => ?_
      cases q <;> conv => whnf
      · (refine Fin.old (congrArg vB ?_) (.refl _); rw [m6 (h1 (by rw [hq, Bool.and_false]))])
      · exact ⟨hi', rfl, ⟨rfl, rfl, trivial⟩, (), trivial, .refl _, h2 (by rw [hq, decide_eq_true (Classical.not_not.1 h)]; rfl)⟩
  obtain rfl := nlt_map ‹_› hi
  have b6 := eqL_all l6 fun i h h' => hx i h h h'
  clear hx
  refine Pw.rng (τ := Unit) 9 ord.length (big12 ok7.1) [2, 3] (fun _ => []) (fun i _ => ∀ (j : Nat), j < i → ∀ (h : j < ord.length) (h' : j < ord'.length), eqOrd ord[j] ord'[j] = true) () rfl ⟨⟩ (by intro j h; omega) fun i _ hi hx => Pw.of TP [] ?_
  conv => whnf
  refine ⟨fun h => ?_, fun h => ?_⟩ <;> conv => whnf
  · have hi' := lt_map ‹_›
    have hi2 : i < ord'.length := by omega
    have k1 := fun F => ixm (f := eOrd) (F := F) hi'
    have k2 := fun F => ixm (f := eOrd) (F := F) hi2
    have h1 := eqL_no (f := eqOrd) hi' hi2
    have h2 : eqOrd ord[i] ord'[i] = true → ∀ (j : Nat), j < i + 1 → ∀ (h : j < ord.length) (h' : j < ord'.length), eqOrd ord[j] ord'[j] = true := fun he j hj h h' => by
      by_cases hji : j = i
      · subst hji; exact he
      · exact hx j (by omega) h h'
    have hm := rsame_is ord[i].e (ok7.2 _ (List.getElem_mem hi')) ord'[i].e
    have he : eqOrd ord[i] ord'[i] = (decide (ord[i].desc = ord'[i].desc) && eqE ord[i].e ord'[i].e) := rfl
    rw [he] at h1 h2
    clear he
    generalize ord[i] = c at k1 h1 h2 hm
    generalize ord'[i] = d at k2 h1 h2 hm
    obtain ⟨cx, nx⟩ := c
    obtain ⟨cy, ny⟩ := d
    dsimp only at h1 h2 hm
    generalize eqE cx cy = e at h1 h2 hm
    obtain ⟨w1, w2, w3, w4, w5⟩ := cx
    obtain ⟨x1, x2, x3, x4, x5⟩ := cy
    refine Pw.drw TP mixed (by kernel_rfl) ?_; conv => whnf
    refine k1 _ ?_
    conv => whnf
    refine k2 _ ?_
    conv => whnf
    cases nx <;> cases ny <;> conv => whnf
    all_goals first
      | ((refine Fin.old (congrArg vB ?_) (.refl _); rw [m7 (h1 rfl)]))
      | (refine k1 _ ?_
         conv => whnf
         refine k2 _ ?_
         conv => whnf
         refine Is.drawB hm fun q hq => ?_
         cases q <;> conv => whnf
         · (refine Fin.old (congrArg vB ?_) (.refl _); rw [m7 (h1 (by rw [hq, Bool.and_false]))])
         · exact ⟨hi', rfl, ⟨rfl, rfl, trivial⟩, (), trivial, .refl _, h2 (by rw [hq]; rfl)⟩)
  obtain rfl := nlt_map ‹_› hi
  have b7 := eqL_all l7 fun i h h' => hx i h h h'
  clear hx
  refine Pw.rng (τ := Unit) 10 kids.length (big12 ok8) [2, 3] (fun _ => []) (fun i _ => ∀ (j : Nat), j < i → ∀ (h : j < kids.length) (h' : j < kids'.length), eqSt kids[j] kids'[j] = true) () rfl ⟨⟩ (by intro j h; omega) fun i _ hi hx => Pw.of TP [] ?_
  conv => whnf
  refine ⟨fun h => ?_, fun h => ?_⟩ <;> conv => whnf
  · have hi' := ltSt ‹_›
    have hi2 : i < kids'.length := by omega
    have k1 := fun F => ixSt (F := F) hi'
    have k2 := fun F => ixSt (F := F) hi2
    have h1 := eqL_no (f := eqSt) hi' hi2
    have h2 : eqSt kids[i] kids'[i] = true → ∀ (j : Nat), j < i + 1 → ∀ (h : j < kids.length) (h' : j < kids'.length), eqSt kids[j] kids'[j] = true := fun he j hj h h' => by
      by_cases hji : j = i
      · subst hji; exact he
      · exact hx j (by omega) h h'
    have hm := ih kids[i] (List.getElem_mem hi') (okSts_all ok9 _ (List.getElem_mem hi')) kids'[i]
    generalize kids[i] = c at k1 h1 h2 hm
    generalize kids'[i] = d at k2 h1 h2 hm
    generalize eqSt c d = e at h1 h2 hm
    obtain ⟨k1a, k2a, k3a, k4a, k5a, k6a, k7a, k8a, ⟨q1a, q2a, q3a, q4a, q5a⟩, k9a, k10a, k11a, k12a, k13a, k14a⟩ := c
    obtain ⟨k1b, k2b, k3b, k4b, k5b, k6b, k7b, k8b, ⟨q1b, q2b, q3b, q4b, q5b⟩, k9b, k10b, k11b, k12b, k13b, k14b⟩ := d
    refine Pw.drw TP mixed (by kernel_rfl) ?_; conv => whnf
    refine k1 _ ?_
    conv => whnf
    refine k2 _ ?_
    conv => whnf
    refine Is.drawB hm fun q hq => ?_
    cases q <;> conv => whnf
    · (refine Fin.old (congrArg vB ?_) (.refl _); rw [m8 (h1 hq)])
    · exact ⟨hi', rfl, ⟨rfl, rfl, trivial⟩, (), trivial, .refl _, h2 hq⟩
  obtain rfl := nltSt ‹_› hi
  have b8 := eqL_all l8 fun i h h' => hx i h h h'
  clear hx
  (refine Fin.old (congrArg vB ?_) (.refl _); rw [yes g1 g2 g3 g4 g5 g6 g7 b1 b2 b3 b4 b5 b6 b7 b8])
end Go.Proofs.YtgbdhakkgnmeoaaGreat.D
