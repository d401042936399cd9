/- Words and contracts: a plain machine over the model, and what the functions that a law reaches come to, each for every input that its theorem names. -/
import Derived.Test.YtgbdhakkgnmeoaaGreatK5
namespace Go.Proofs.YtgbdhakkgnmeoaaGreat.D
set_option linter.unusedVariables false
set_option linter.unusedSimpArgs false
open Go Go.Proofs.YtgbdhakkgnmeoaaGreat.D.Pm
set_option maxRecDepth 4000
def fewR (r : List Ex) : Bool := decide (r.length ≤ 12) && r.all (fewE 60)
def fewX (x : SetX) : Bool := fewE 60 x.e
def fewO (x : OrdX) : Bool := fewE 60 x.e
def textsB (tb nm rl : ByteArray) (cols : List Cl) (cons : List Con) (ns : List ByteArray) (sets : List SetX) : List ByteArray := [tb, nm, rl] ++ ns ++ cols.map (·.name) ++ cons.flatMap textsC ++ sets.map (·.name)
def noKids : St → Bool
  | .mk _ _ _ _ _ _ _ _ _ _ _ _ _ _ kids => decide (kids.length = 0)
mutual
def fewSt : St → Bool
  | .mk k tb nm rl cols cons ns rows wh sets ord lim pr op kids => decide (cols.length ≤ 12) && (decide (cons.length ≤ 12) && (decide (ns.length ≤ 12) && (decide (rows.length ≤ 12) && (decide (sets.length ≤ 12) && (decide (ord.length ≤ 12) && (decide (kids.length ≤ 1) && (fewE 60 wh &&
      (cons.all fewC && (rows.all fewR && (sets.all fewX && (ord.all fewO && ((textsB tb nm rl cols cons ns sets).all short && fewKs kids))))))))))))
def fewKs : List St → Bool
  | [] => true
  | s :: _ => noKids s && fewSt s
end
set_option maxHeartbeats 4000000 in
theorem few12_is : ∀ s, Is Tryz.prog 5 [.g (eSt s)] (vB (fewSt s)) := by
  refine St.ind fun k tb nm rl cols cons ns rows wh sets ord lim pr op kids ih => ?_
  have e1 : (cols.map eCl).length = cols.length := List.length_map ..
  have e2 : (cons.map eCon).length = cons.length := List.length_map ..
  have e3 : (ns.map strC).length = ns.length := List.length_map ..
  have e4 : (rows.map eRow).length = rows.length := List.length_map ..
  have e6 : (sets.map eSet).length = sets.length := List.length_map ..
  have e7 : (ord.map eOrd).length = ord.length := List.length_map ..
  have e8 := eSts_len kids
  have h5 := few_is wh 60 (by decide)
  have ee := fewSt.eq_1 k tb nm rl cols cons ns rows wh sets ord lim pr op kids
  generalize fewSt _ = R at ee ⊢
  generalize fewE 60 wh = p5 at h5 ee
  have n1 : ¬ cols.length ≤ 12 → R = false := fun h => by rw [ee, decide_eq_false h]; simp
  have n2 : ¬ cons.length ≤ 12 → R = false := fun h => by rw [ee, decide_eq_false h]; simp
  have n3 : ¬ ns.length ≤ 12 → R = false := fun h => by rw [ee, decide_eq_false h]; simp
  have n4 : ¬ rows.length ≤ 12 → R = false := fun h => by rw [ee, decide_eq_false h]; simp
  have n6 : ¬ sets.length ≤ 12 → R = false := fun h => by rw [ee, decide_eq_false h]; simp
  have n7 : ¬ ord.length ≤ 12 → R = false := fun h => by rw [ee, decide_eq_false h]; simp
  have n8 : ¬ kids.length ≤ 1 → R = false := fun h => by rw [ee, decide_eq_false h]; simp
  have n5 : p5 = false → R = false := fun h => by rw [ee, h]; simp
  have m2 : cons.all fewC = false → R = false := fun h => by rw [ee, h]; simp
  have m4 : rows.all fewR = false → R = false := fun h => by rw [ee, h]; simp
  have m6 : sets.all fewX = false → R = false := fun h => by rw [ee, h]; simp
  have m7 : ord.all fewO = false → R = false := fun h => by rw [ee, h]; simp
  have m9 : (textsB tb nm rl cols cons ns sets).all short = false → R = false := fun h => by rw [ee, h]; simp
  have yes : cols.length ≤ 12 → cons.length ≤ 12 → ns.length ≤ 12 → rows.length ≤ 12 → sets.length ≤ 12 → ord.length ≤ 12 → kids.length ≤ 1 → p5 = true → cons.all fewC = true → rows.all fewR = true → sets.all fewX = true → ord.all fewO = true → (textsB tb nm rl cols cons ns sets).all short = true → R = fewKs kids := fun a1 a2 a3 a4 a5 a6 a7 b1 b2 b3 b4 b5 b6 => by
    rw [ee, b1, b2, b3, b4, b5, b6, decide_eq_true a1, decide_eq_true a2, decide_eq_true a3, decide_eq_true a4, decide_eq_true a5, decide_eq_true a6, decide_eq_true a7]; rfl
  clear ee
  obtain ⟨q1, q2, q3, q4, q5⟩ := wh
  refine Is.of TP Tryz.func5 rfl rfl (Nat.le_of_ble_eq_true rfl) fun st => Pw.of TP [1, 1000064] ?_
  conv => whnf
  refine Pw.cut (τ := Unit) [1] (fun _ => []) (fun _ => st) (fun _ => cols.length ≤ 12 ∧ cons.length ≤ 12 ∧ ns.length ≤ 12 ∧ rows.length ≤ 12 ∧ sets.length ≤ 12 ∧ ord.length ≤ 12 ∧ kids.length ≤ 1 ∧ p5 = true) (Pw.of TP [] ?_) fun _ hl => Pw.of TP [1000064] ?_
  · clear ih m2 m4 m6 m7 m9 yes
    conv => whnf
    repeat' (first | (refine ⟨fun h => ?_, fun h => ?_⟩ <;> conv => whnf) | fail)
    all_goals first
      | (refine Fin.old (congrArg vB ?_) (.refl _); first | exact (n1 (by omega)).symm | exact (n2 (by omega)).symm | exact (n3 (by omega)).symm | exact (n4 (by omega)).symm | exact (n6 (by omega)).symm | exact (n7 (by omega)).symm | exact (n8 (by omega)).symm)
      | (refine Is.callB h5 fun b hb => ?_
         cases b <;> conv => whnf
         · exact Fin.old (congrArg vB (n5 hb).symm) (.refl _)
         · exact ⟨⟨rfl, trivial⟩, (), trivial, .refl _, by omega, by omega, by omega, by omega, by omega, by omega, by omega, hb⟩)
  obtain ⟨l1, l2, l3, l4, l6, l7, l8, b5⟩ := hl
  clear n1 n2 n3 n4 n5 n6 n7 n8 h5
  conv => whnf
  intro id hid
  conv => whnf
  refine Grow.app (z := zS) (st0 := st) (rows := [tb, nm, rl].map strC) ⟨.upd hid, .inr ⟨id, rfl, upd_same _ _ _, hid⟩⟩ (by simp only [List.length_map, List.length_append, List.length_cons, List.length_nil, List.length_set, List.length_replicate, List.length_take]; unfold maxLen; omega) (by simp only [List.length_map, List.length_append, List.length_cons, List.length_nil, List.length_set, List.length_replicate, List.length_take]; omega) fun a0 s0 hg0 hk0 => ?_
  conv => whnf
  clear hk0
  refine Pw.rngS (τ := AC × Sto) 4 cols.length (big12 l1) [1] (fun _ y => [(3, .c y.1)]) (fun _ y => y.2) (fun i y => Grow st 1 y.2 y.1 (([tb, nm, rl] ++ ns ++ (cols.take i).map (·.name)).map strC)) (a0, s0) rfl ⟨rfl, trivial⟩ (.refl _) (by simpa using hg0) fun i y hi hg => Pw.of TP [] ?_
  clear hg0
  obtain ⟨a, s⟩ := y
  simp only at hg ⊢
  conv => whnf
  refine ⟨fun h => ?_, fun h => ?_⟩ <;> conv => whnf
  · have hi' := lt_map ‹_›
    refine ixm hi' ?_
    have hs := map_take2 (f := Cl.name) hi'
    generalize cols[i] = c at hs ⊢
    conv => whnf
    refine Grow.app (z := zS) hg (by simp only [List.length_map, List.length_append, List.length_cons, List.length_nil, List.length_set, List.length_replicate, List.length_take]; unfold maxLen; omega) (by simp only [List.length_map, List.length_append, List.length_cons, List.length_nil, List.length_set, List.length_replicate, List.length_take]; omega) fun a' st' hg' hk => ?_
    conv => whnf
    exact ⟨hi', rfl, ⟨rfl, trivial⟩, (a', st'), ⟨rfl, trivial⟩, .refl _, by rw [hs, ← List.append_assoc, List.map_append]; exact hg'⟩
  obtain rfl := nlt_map ‹_› hi
  rw [List.take_length] at hg
  refine Pw.rngS (τ := AC × Sto) 5 cons.length (big12 l2) [1] (fun _ y => [(3, .c y.1)]) (fun _ y => y.2) (fun i y => Grow st 1 y.2 y.1 (([tb, nm, rl] ++ ns ++ cols.map (·.name) ++ (cons.take i).flatMap textsC).map strC) ∧ ((cons.take i).flatMap textsC).length ≤ 26 * i ∧ ∀ x ∈ cons.take i, fewC x = true) (a, s) rfl ⟨rfl, trivial⟩ (.refl _) ⟨by simpa using hg, by simp, by simp⟩ fun i y hi hx => Pw.of TP [] ?_
  clear hg
  obtain ⟨a, s⟩ := y
  obtain ⟨hg, hlen, hall⟩ := hx
  simp only at hg ⊢
  conv => whnf
  refine ⟨fun h => ?_, fun h => ?_⟩ <;> conv => whnf
  · have hi' := lt_map ‹_›
    refine ixm hi' ?_
    have hs := flat_take2 (f := textsC) hi'
    have hs2 := take_snoc (Q := fun x => fewC x = true) hi' hall
    have ha := all_at (p := fewC) hi'
    generalize cons[i] = c at hs hs2 ha ⊢
    have hf := few_is c.check 60 (by decide)
    have e1' : fewC c = (decide (c.cols.length ≤ 12) && (decide (c.refs.length ≤ 12) && fewE 60 c.check)) := rfl
    have e2' : textsC c = [c.name, c.table] ++ c.cols ++ c.refs := rfl
    rw [e1'] at hs2 ha
    rw [e2'] at hs
    have hno : (decide (c.cols.length ≤ 12) && (decide (c.refs.length ≤ 12) && fewE 60 c.check)) = false → vB false = vB R := fun h => by rw [m2 (ha h)]
    clear ha e1' e2'
    have el1 : (c.cols.map strC).length = c.cols.length := List.length_map ..
    have el2 : (c.refs.map strC).length = c.refs.length := List.length_map ..
    obtain ⟨nm', kd, cols', ck, tb', refs⟩ := c
    simp only at hf hs hs2 hno el1 el2
    generalize fewE 60 ck = fe at hf hs2 hno
    obtain ⟨k, op, v, n, kids'⟩ := ck
    conv => whnf
    refine ⟨fun h1 => ?_, fun h1 => ?_⟩ <;> simp only [List.length_map] at h1 <;> conv => whnf
    · exact Fin.old (hno (by rw [decide_eq_false (by omega)]; rfl)) hg.le
    refine ⟨fun h2 => ?_, fun h2 => ?_⟩ <;> simp only [List.length_map] at h2 <;> conv => whnf
    · exact Fin.old (hno (by rw [decide_eq_false (show ¬ refs.length ≤ 12 by omega)]; simp)) hg.le
    refine Is.callB hf fun b hb => ?_
    cases b <;> conv => whnf
    · exact Fin.old (hno (by rw [hb]; simp)) hg.le
    have hok : (decide (cols'.length ≤ 12) && (decide (refs.length ≤ 12) && fe)) = true := by
      rw [hb, decide_eq_true (by omega), decide_eq_true (by omega)]; rfl
    have h1' : cols'.length ≤ 12 := by omega
    have h2' : refs.length ≤ 12 := by omega
    refine Grow.app (z := zS) hg (by simp only [List.length_map, List.length_append, List.length_cons, List.length_nil, List.length_set, List.length_replicate, List.length_take]; unfold maxLen; omega) (by simp only [List.length_map, List.length_append, List.length_cons, List.length_nil, List.length_set, List.length_replicate, List.length_take]; omega) fun a2 st2 hg2 hk2 => ?_
    conv => whnf
    refine Grow.app (z := zS) hg2 (by simp only [List.length_map, List.length_append, List.length_cons, List.length_nil, List.length_set, List.length_replicate, List.length_take]; unfold maxLen; omega) (by simp only [List.length_map, List.length_append, List.length_cons, List.length_nil, List.length_set, List.length_replicate, List.length_take]; omega) fun a3 st3 hg3 hk3 => ?_
    conv => whnf
    refine Grow.app (z := zS) hg3 (by simp only [List.length_map, List.length_append, List.length_cons, List.length_nil, List.length_set, List.length_replicate, List.length_take]; unfold maxLen; omega) (by simp only [List.length_map, List.length_append, List.length_cons, List.length_nil, List.length_set, List.length_replicate, List.length_take]; omega) fun a4 st4 hg4 hk4 => ?_
    conv => whnf
    refine ⟨hi', rfl, ⟨rfl, trivial⟩, (a4, st4), ⟨rfl, trivial⟩, .refl _, ?_, ?_, hs2 hok⟩
    · rw [hs]
      simp only [← List.append_assoc]
      rw [List.map_append, List.map_append, List.map_append]
      exact hg4
    · rw [hs]; simp only [List.length_append, List.length_cons, List.length_nil]; omega
  obtain rfl := nlt_map ‹_› hi
  rw [List.take_length] at hg hlen hall
  have b2 : cons.all fewC = true := all_take hall
  clear hall m2
  -- the rows
  refine Pw.rng (τ := Unit) 7 rows.length (big12 l4) [1, 3] (fun _ => []) (fun i _ => ∀ x ∈ rows.take i, fewR x = true) () rfl ⟨⟩ (by simp) fun i _ hi hall => Pw.of TP [] ?_
  conv => whnf
  refine ⟨fun h => ?_, fun h => ?_⟩ <;> conv => whnf
  · have hi' := lt_map ‹_›
    have k0 := fun F => ixm (f := eRow) (F := F) hi'
    have hs2 := take_snoc (Q := fun x => fewR x = true) hi' hall
    have ha := all_at (p := fewR) hi'
    generalize rows[i] = r at k0 hs2 ha
    have el := eEs_len r
    have hno : ¬ r.length ≤ 12 → R = false := fun h => m4 (ha (by unfold fewR; rw [decide_eq_false h]; rfl))
    have hno2 : r.all (fewE 60) = false → R = false := fun h => m4 (ha (by unfold fewR; rw [h, Bool.and_false]))
    have hyes : r.length ≤ 12 → r.all (fewE 60) = true → fewR r = true := fun h1 h2 => by unfold fewR; rw [decide_eq_true h1, h2]; rfl
    clear ha
    refine k0 _ ?_
    conv => whnf
    refine ⟨fun h1 => ?_, fun h1 => ?_⟩ <;> conv => whnf
    · exact Fin.old (congrArg vB (hno (by omega)).symm) hg.le
    have h1' : r.length ≤ 12 := by omega
    refine Pw.rng (τ := Unit) 8 r.length (big12 h1') [1, 3, 7] (fun _ => []) (fun j _ => ∀ x ∈ r.take j, fewE 60 x = true) () rfl ⟨⟩ (by simp) fun j _ hj hal2 => Pw.of TP [] ?_
    conv => whnf
    refine k0 _ ?_
    conv => whnf
    refine ⟨fun h => ?_, fun h => ?_⟩ <;> conv => whnf
    · have hj' := ltE ‹_›
      have hs3 := take_snoc (Q := fun x => fewE 60 x = true) hj' hal2
      have ha := all_at (p := fewE 60) hj'
      have k1 := fun F => ixE (F := F) hj'
      have hf := few_is r[j] 60 (by decide)
      refine k0 _ ?_
      conv => whnf
      refine k1 _ ?_
      generalize r[j] = e at hs3 ha hf ⊢
      generalize fewE 60 e = fe at hs3 ha hf
      obtain ⟨w1, w2, w3, w4, w5⟩ := e
      conv => whnf
      refine Is.callB hf fun b hb => ?_
      cases b <;> conv => whnf
      · exact Fin.old (congrArg vB (hno2 (ha hb)).symm) hg.le
      · exact ⟨hj', rfl, ⟨rfl, rfl, rfl, trivial⟩, (), trivial, .refl _, hs3 hb⟩
    · obtain rfl := nltE ‹_› hj
      exact ⟨hi', rfl, ⟨rfl, rfl, trivial⟩, (), trivial, .refl _, hs2 (hyes h1' (all_take (by simpa using hal2)))⟩
  obtain rfl := nlt_map ‹_› hi
  rw [List.take_length] at hall
  have b4 : rows.all fewR = true := all_take hall
  clear hall m4
  -- the sets
  refine Pw.rngS (τ := AC × Sto) 9 sets.length (big12 l6) [1] (fun _ y => [(3, .c y.1)]) (fun _ y => y.2) (fun i y => Grow st 1 y.2 y.1 (([tb, nm, rl] ++ ns ++ cols.map (·.name) ++ cons.flatMap textsC ++ (sets.take i).map (·.name)).map strC) ∧ ∀ x ∈ sets.take i, fewX x = true) (a, s) rfl ⟨rfl, trivial⟩ (.refl _) ⟨by simpa using hg, by simp⟩ fun i y hi hx => Pw.of TP [] ?_
  clear hg
  obtain ⟨a, s⟩ := y
  obtain ⟨hg, hall⟩ := hx
  simp only at hg ⊢
  conv => whnf
  refine ⟨fun h => ?_, fun h => ?_⟩ <;> conv => whnf
  · have hi' := lt_map ‹_›
    have k0 := fun F => ixm (f := eSet) (F := F) hi'
    have hs := map_take2 (f := SetX.name) hi'
    have hs2 := take_snoc (Q := fun x => fewX x = true) hi' hall
    have ha := all_at (p := fewX) hi'
    have hf := few_is sets[i].e 60 (by decide)
    have he : fewX sets[i] = fewE 60 sets[i].e := rfl
    rw [he] at hs2 ha
    clear he
    generalize sets[i] = c at k0 hs hs2 ha hf
    obtain ⟨c1, c2⟩ := c
    dsimp only at hs hs2 ha hf
    generalize fewE 60 c2 = fe at hs2 ha hf
    obtain ⟨w1, w2, w3, w4, w5⟩ := c2
    refine k0 _ ?_
    conv => whnf
    refine Grow.app (z := zS) hg (by simp only [List.length_map, List.length_append, List.length_cons, List.length_nil, List.length_set, List.length_replicate, List.length_take]; unfold maxLen; omega) (by simp only [List.length_map, List.length_append, List.length_cons, List.length_nil, List.length_set, List.length_replicate, List.length_take]; omega) fun a' st' hg' hk => ?_
    conv => whnf
    refine k0 _ ?_
    conv => whnf
    refine Is.callB hf fun b hb => ?_
    cases b <;> conv => whnf
    · exact Fin.old (congrArg vB (m6 (ha hb)).symm) hg'.le
    · exact ⟨hi', rfl, ⟨rfl, trivial⟩, (a', st'), ⟨rfl, trivial⟩, .refl _, by rw [hs, ← List.append_assoc, List.map_append]; exact hg', hs2 hb⟩
  obtain rfl := nlt_map ‹_› hi
  rw [List.take_length] at hg hall
  have b6 : sets.all fewX = true := all_take hall
  clear hall m6
  -- the order
  refine Pw.rng (τ := Unit) 10 ord.length (big12 l7) [1, 3] (fun _ => []) (fun i _ => ∀ x ∈ ord.take i, fewO x = true) () rfl ⟨⟩ (by simp) fun i _ hi hall => Pw.of TP [] ?_
  conv => whnf
  refine ⟨fun h => ?_, fun h => ?_⟩ <;> conv => whnf
  · have hi' := lt_map ‹_›
    have k0 := fun F => ixm (f := eOrd) (F := F) hi'
    have hs2 := take_snoc (Q := fun x => fewO x = true) hi' hall
    have ha := all_at (p := fewO) hi'
    have hf := few_is ord[i].e 60 (by decide)
    have he : fewO ord[i] = fewE 60 ord[i].e := rfl
    rw [he] at hs2 ha
    clear he
    generalize ord[i] = c at k0 hs2 ha hf
    obtain ⟨c2, c1⟩ := c
    dsimp only at hs2 ha hf
    generalize fewE 60 c2 = fe at hs2 ha hf
    obtain ⟨w1, w2, w3, w4, w5⟩ := c2
    refine k0 _ ?_
    conv => whnf
    refine Is.callB hf fun b hb => ?_
    cases b <;> conv => whnf
    · exact Fin.old (congrArg vB (m7 (ha hb)).symm) hg.le
    · exact ⟨hi', rfl, ⟨rfl, rfl, trivial⟩, (), trivial, .refl _, hs2 hb⟩
  obtain rfl := nlt_map ‹_› hi
  rw [List.take_length] at hall
  have b7 : ord.all fewO = true := all_take hall
  clear hall m7
  -- the texts
  have hg' : Grow st 1 s a ((textsB tb nm rl cols cons ns sets).map strC) := hg
  have hlt : (textsB tb nm rl cols cons ns sets).length ≤ 600 := by rw [textsB]; simp only [List.length_append, List.length_cons, List.length_nil, List.length_map]; omega
  have hpos : 0 < (textsB tb nm rl cols cons ns sets).length := by rw [textsB]; simp only [List.length_append, List.length_cons, List.length_nil]; omega
  have yes := fun b9 => yes l1 l2 l3 l4 l6 l7 l8 b5 b2 b4 b6 b7 b9
  clear hg hlen
  generalize textsB tb nm rl cols cons ns sets = tx at hg' hlt m9 yes hpos
  refine Pw.rng (τ := Unit) 11 tx.length (by unfold Big; omega) [1, 3] (fun _ => []) (fun i _ => ∀ x ∈ tx.take i, short x = true) () rfl ⟨⟩ (by simp) fun i _ hi hx => ?_
  rcases hg'.2 with ⟨rfl, h0⟩ | ⟨id, rfl, hid, h0⟩
  · exfalso
    have : tx = [] := by simpa using h0
    subst this
    exact absurd hpos (by decide)
  refine Pw.of TP [] ?_
  conv => whnf
  refine ⟨fun h => ?_, fun h => ?_⟩ <;> conv => whnf
  · have hi' := lt_map ‹_›
    have hs := take_snoc (Q := fun x => short x = true) hi' hx
    have ha := all_at (p := short) hi'
    refine ⟨by omega, by omega, ⟨_, hid⟩, ?_⟩
    conv => whnf
    refine ⟨1, _, strC tx[i], hid, by simp [hi'], ?_⟩
    conv => whnf
    refine ⟨fun h1 => ?_, fun h1 => ?_⟩ <;> conv => whnf
    · exact Fin.old (congrArg vB (m9 (ha (decide_eq_false (by omega)))).symm) hg'.le
    · exact ⟨hi', rfl, ⟨rfl, rfl, trivial⟩, (), trivial, .refl _, hs (decide_eq_true (by omega))⟩
  obtain rfl := nlt_map ‹_› hi
  have hR := yes (all_take (by simpa using hx))
  clear yes m9
  refine ⟨fun h0 => ?_, fun h0 => ?_⟩ <;> conv => whnf
  · have : kids = [] := List.length_eq_zero_iff.1 (by omega)
    subst this
    exact Fin.old (congrArg vB hR.symm) hg'.le
  have hk0 : 0 < kids.length := by omega
  have k0 := fun F => ixSt (j := 0) (F := F) hk0
  have hf := ih kids[0] (List.getElem_mem hk0)
  have hK : fewKs kids = (noKids kids[0] && fewSt kids[0]) := by
    match kids, hk0 with
    | s :: l, _ => rfl
  rw [hK] at hR
  clear hK ih
  generalize kids[0] = x at k0 hf hR
  generalize fewSt x = fx at hf hR
  obtain ⟨k1, k2, k3, k4, k5, k6, k7, k8, ⟨q1', q2', q3', q4', q5'⟩, k9, k10, k11, k12, k13, k14⟩ := x
  have e9 := eSts_len k14
  rw [noKids] at hR
  refine k0 _ ?_
  conv => whnf
  refine ⟨fun h1 => ?_, fun h1 => ?_⟩ <;> conv => whnf
  · refine k0 _ ?_
    conv => whnf
    refine Is.callB hf fun b hb => ?_
    conv => whnf
    exact Fin.old (congrArg vB (by rw [hR, hb, decide_eq_true (by omega)]; rfl)) hg'.le
  · exact Fin.old (congrArg vB (by rw [hR, decide_eq_false (by omega)]; rfl)) hg'.le
end Go.Proofs.YtgbdhakkgnmeoaaGreat.D
