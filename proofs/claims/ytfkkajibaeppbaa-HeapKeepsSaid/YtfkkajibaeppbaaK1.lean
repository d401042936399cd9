/- Words and contracts: a plain machine over the model, and what the functions that a law reaches come to, each for every input that its theorem names. -/
import Derived.Test.YtfkkajibaeppbaaK0
namespace Go.Proofs.Ytfkkajibaeppbaa.D
set_option linter.unusedVariables false
set_option linter.unusedSimpArgs false
open Go Go.Proofs.Ytfkkajibaeppbaa.D.Pm
set_option maxRecDepth 4000
theorem wr_mid (a b : By) (x y : UInt8) (n i : Nat) (h : i = a.length) : wr (a ++ (x :: y :: b)) i n = a ++ (w2 n ++ b) := by subst h; exact wr_app a b x y n
theorem set_split {l : List Sl} {k : Nat} (hk : k < l.length) (s : Sl) : l.set k s = l.take k ++ s :: l.drop (k + 1) := by rw [List.set_eq_take_append_cons_drop, if_pos hk]
theorem need_set {l : List Sl} {k : Nat} (hk : k < l.length) (s : Sl) : need (l.set k s) + dz l[k] = need l + dz s := by
  have h1 := dsum_split hk
  have h2 : dsum (l.set k s) = dsum (l.take k) + dz s + dsum (l.drop (k + 1)) := by
    rw [set_split hk, dsum_app]; simp [dsum]; omega
  unfold need
  rw [List.length_set]
  omega
theorem back_set {l : List Sl} {k : Nat} (hk : k < l.length) (s : Sl) : back (l.set k s) = back (l.drop (k + 1)) ++ dat s ++ back (l.take k) := by
  rw [set_split hk, back_app]; rfl
theorem szs_set {l : List Sl} {k : Nat} (hk : k < l.length) (s : Sl) : szs (l.set k s) = szs (l.take k) ++ (w2 (sz s) ++ szs (l.drop (k + 1))) := by
  rw [set_split hk, szs_app, szs_cons]
theorem szs_at {l : List Sl} {k : Nat} (hk : k < l.length) : szs l = szs (l.take k) ++ (w2 (sz l[k]) ++ szs (l.drop (k + 1))) := by
  conv => lhs; rw [split_at hk, szs_app, szs_cons]
/-- behind lay, and a slot's number -/
theorem wr_slot {l : List Sl} {k : Nat} (hk : k < l.length) (s : Sl) (hn : need (l.set k s) ≤ 512) (hf : need l ≤ 512) {z : Nat} (hz : z + dz s = 512 - need l + dz l[k]) :
    wr (laid (w2 l.length ++ szs l) (back (l.drop (k + 1))) (dat s) (back (l.take k)) z) (2 + 2 * k) (sz s) = pg (l.set k s) := by
  unfold laid
  rw [szs_at hk]
  have e : w2 l.length ++ (szs (l.take k) ++ (w2 (sz l[k]) ++ szs (l.drop (k + 1)))) ++ List.replicate z 0 ++ back (l.drop (k + 1)) ++ dat s ++ back (l.take k) = (w2 l.length ++ szs (l.take k)) ++ (hi (sz l[k]) :: lo (sz l[k]) :: (szs (l.drop (k + 1)) ++ List.replicate z 0 ++ back (l.drop (k + 1)) ++ dat s ++ back (l.take k))) := by
    simp [w2]
  rw [e, wr_mid _ _ _ _ _ _ (by rw [List.length_append, szs_length, List.length_take]; simp [w2]; omega)]
  unfold pg
  rw [szs_set hk, back_set hk, List.length_set, show 512 - need (l.set k s) = z by have := need_set hk s; omega]
  simp only [List.append_assoc]
theorem wr_head (n : Nat) (p : By) (m : Nat) : wr (w2 n ++ p) 0 m = w2 m ++ p := by simp [wr, w2]
theorem need_app (l : List Sl) (s : Sl) : need (l ++ [s]) = need l + 2 + dz s := by
  unfold need; rw [dsum_app]; simp [dsum]; omega
/-- .. a new slot -/
theorem wr_new {l : List Sl} (d : By) (hn : need l + 2 + d.length ≤ 512) :
    wr (wr (laid (w2 l.length ++ szs l) [] d (back l) (512 - need l - d.length)) 0 (l.length + 1)) (2 + 2 * l.length) (d.length + 1) = pg (l ++ [some d]) := by
  unfold laid
  have e1 : w2 l.length ++ szs l ++ List.replicate (512 - need l - d.length) 0 ++ [] ++ d ++ back l = w2 l.length ++ (szs l ++ List.replicate (512 - need l - d.length) 0 ++ d ++ back l) := by simp
  rw [e1, wr_head]
  have e2 : w2 (l.length + 1) ++ (szs l ++ List.replicate (512 - need l - d.length) 0 ++ d ++ back l) = (w2 (l.length + 1) ++ szs l) ++ (0 :: 0 :: (List.replicate (512 - need l - d.length - 2) 0 ++ d ++ back l)) := by
    rw [show 512 - need l - d.length = (512 - need l - d.length - 2) + 1 + 1 by omega, List.replicate_succ, List.replicate_succ]
    simp
  rw [e2, wr_mid _ _ _ _ _ _ (by rw [List.length_append, szs_length]; simp [w2])]
  unfold pg
  rw [szs_app, back_app, need_app, List.length_append]
  simp only [dz, szs, List.flatMap_cons, List.flatMap_nil, sz, back, dat, List.append_nil, List.nil_append, List.length_cons, List.length_nil, List.append_assoc]
  rw [show 512 - (need l + 2 + d.length) = 512 - need l - d.length - 2 by omega]
/-- the first slot that is empty -/
def firstE : List Sl → Nat
  | [] => 0
  | none :: _ => 0
  | some _ :: r => firstE r + 1
theorem firstE_le : ∀ l : List Sl, firstE l ≤ l.length
  | [] => Nat.le_refl _
  | none :: l => Nat.zero_le _
  | some d :: l => by have := firstE_le l; simp [firstE]; omega
theorem firstE_none : ∀ {l : List Sl} (h : firstE l < l.length), l[firstE l] = none
  | none :: l, h => rfl
  | some d :: l, h => by
    have h' : firstE l < l.length := by simpa [firstE] using h
    simpa [firstE] using firstE_none h'
theorem firstE_some : ∀ {l : List Sl} {k : Nat} (hk : k < firstE l), ∃ d, l[k]? = some (some d)
  | none :: l, k, hk => by simp [firstE] at hk
  | some d :: l, 0, hk => ⟨d, rfl⟩
  | some d :: l, k + 1, hk => by
    have : k < firstE l := by simpa [firstE] using hk
    simpa using firstE_some this
/-- data is laid -/
def putL (l : List Sl) (d : By) : List Sl := if firstE l = l.length then l ++ [some d] else l.set (firstE l) (some d)
def putS (l : List Sl) (d : By) : List Sl × Nat × Nat := if 255 < d.length then ([], 0, 3) else if 512 < need (putL l d) then ([], 0, 5) else (putL l d, firstE l, 0)
theorem need_putL (l : List Sl) (d : By) : need (putL l d) = need l + d.length + if firstE l = l.length then 2 else 0 := by
  unfold putL
  split
  · rw [need_app]; simp [dz]; omega
  · rename_i h
    have hk : firstE l < l.length := by have := firstE_le l; omega
    have := need_set hk (some d)
    rw [firstE_none hk] at this
    simp [dz] at this ⊢
    omega
theorem last_set {l : List Sl} (hl : ∀ a, l.getLast? = some a → a ≠ none) (k : Nat) (d : By) : ∀ a, (l.set k (some d)).getLast? = some a → a ≠ none := by
  intro a ha
  rw [List.getLast?_eq_getElem?, List.length_set, List.getElem?_set] at ha
  split at ha
  · split at ha
    · cases ha; intro h; cases h
    · cases ha
  · exact hl a (by rw [List.getLast?_eq_getElem?]; exact ha)
theorem ok_putL {l : List Sl} (hO : Ok l) {d : By} (h1 : d.length ≤ 255) (h2 : need (putL l d) ≤ 512) : Ok (putL l d) := by
  refine ⟨h2, fun s hs => ?_, ?_⟩
  · unfold putL at hs
    split at hs
    · rcases List.mem_append.1 hs with h | h
      · exact hO.few s h
      · simp at h; subst h; exact h1
    · rcases List.mem_or_eq_of_mem_set hs with h | h
      · exact hO.few s h
      · subst h; exact h1
  · unfold putL
    split
    · intro a ha; simp at ha; subst ha; intro h; cases h
    · exact last_set hO.last _ _
end Go.Proofs.Ytfkkajibaeppbaa.D
namespace Go.Proofs.Ytfkkajibaeppbaa.D
set_option linter.unusedVariables false
set_option linter.unusedSimpArgs false
open Go Go.Proofs.Ytfkkajibaeppbaa.D.Pm
set_option maxRecDepth 4000
def pgC (l : List Sl) : AC := .sl 1 (byl (pg l))
def putR (r : List Sl × Nat × Nat) : AV := .t [.c (if r.2.2 = 0 then pgC r.1 else .sl 1 []), vI .i64 (r.2.1 : Nat), vI .i64 (r.2.2 : Nat)]
theorem FV.t3 {D : Nat → Bool} {st : Sto} {a b c a' b' c' : AV} (h1 : FV D st a a') (h2 : FV D st b b') (h3 : FV D st c c') : FV D st (.t [a, b, c]) (.t [a', b', c']) := .t _ _ rfl fun j x y hx hy => by
  match j, hx, hy with
  | 0, hx, hy => cases hx; cases hy; exact h1
  | 1, hx, hy => cases hx; cases hy; exact h2
  | 2, hx, hy => cases hx; cases hy; exact h3
  | j + 3, hx, hy => simp at hx
theorem FV.t2 {D : Nat → Bool} {st : Sto} {a b a' b' : AV} (h1 : FV D st a a') (h2 : FV D st b b') : FV D st (.t [a, b]) (.t [a', b']) := .t _ _ rfl fun j x y hx hy => by
  match j, hx, hy with
  | 0, hx, hy => cases hx; cases hy; exact h1
  | 1, hx, hy => cases hx; cases hy; exact h2
  | j + 2, hx, hy => simp at hx
theorem FV.nil (D : Nat → Bool) (st : Sto) (sz : Nat) : FV D st (.c (.v (.slice none 0 0))) (.c (.sl sz [])) := .c _ _ (.nil sz)
theorem FV.live {st : Sto} {id : Nat} {p : By} {n : Nat} (hs : LiveP st id p) (hn : n = p.length) : FV (only id) st (.c (.arr id 0 n)) (.c (.sl 1 (byl p))) := by
  have := Fz.arr0 (D := only id) (st := st) (by simp [only]) hs byl_row
  rw [byl_length] at this
  exact hn ▸ .c _ _ this
theorem old_only {st s : Sto} {id : Nat} (hle : Le st s) (h0 : st id = none) : ∀ i o, st i = some o → s i = some o ∧ only id i = false := fun i o h => ⟨hle i o h, by
  unfold only
  exact decide_eq_false fun e => by subst e; rw [h0] at h; cases h⟩
theorem getS_none {l : List Sl} {k : Nat} (h : ∀ d, l[k]? ≠ some (some d)) : getS l (k : Int) = none := by
  unfold getS
  rw [if_neg (by omega), Int.toNat_natCast]
  cases hh : l[k]? with
  | none => rfl
  | some a => cases a with
    | none => rfl
    | some d => exact absurd hh (h d)
theorem low_eq {l : List Sl} (hf : need l ≤ 512) : (w2 l.length ++ szs l).length + (512 - need l) = 512 - dsum l := by
  rw [List.length_append, szs_length]
  unfold need at *
  simp [w2]
  omega
theorem laid_length {H A d B : By} {n : Nat} : (laid H A d B n).length = H.length + n + A.length + d.length + B.length := by
  unfold laid; simp only [List.length_append, List.length_replicate]
theorem pg_first {l : List Sl} : pg l = (w2 l.length ++ szs l) ++ List.replicate (512 - need l) 0 ++ back (l.drop (firstE l + 1)) ++ [] ++ back (l.take (firstE l)) := by
  by_cases h : firstE l < l.length
  · have := pg_parts h
    rw [firstE_none h] at this
    exact this
  · have e : firstE l = l.length := by have := firstE_le l; omega
    rw [e, List.take_length, List.drop_of_length_le (by omega)]
    simp [pg, back]
theorem dsum_first (l : List Sl) : dsum l = dsum (l.take (firstE l)) + dsum (l.drop (firstE l + 1)) := by
  by_cases h : firstE l < l.length
  · have := dsum_split h
    rw [firstE_none h] at this
    simpa [dz] using this
  · have e : firstE l = l.length := by have := firstE_le l; omega
    rw [e, List.take_length, List.drop_of_length_le (by omega)]
    simp [dsum]
theorem put_end {l : List Sl} (hf : need l ≤ 512) (d : By) (hd : need (putL l d) ≤ 512) : wr (wr (laid (w2 l.length ++ szs l) (back (l.drop (firstE l + 1))) d (back (l.take (firstE l))) (512 - need l - d.length)) 0 (max l.length (firstE l + 1))) (2 + 2 * firstE l) (d.length + 1) = pg (putL l d) := by
  have hn := need_putL l d
  by_cases h : firstE l = l.length
  · have e1 : putL l d = l ++ [some d] := by unfold putL; rw [if_pos h]
    rw [if_pos h] at hn
    rw [e1, h, List.take_length, List.drop_of_length_le (by omega), Nat.max_eq_right (by omega)]
    exact wr_new d (by omega)
  · have hk : firstE l < l.length := by have := firstE_le l; omega
    have e1 : putL l d = l.set (firstE l) (some d) := by unfold putL; rw [if_neg h]
    rw [if_neg h] at hn
    rw [e1] at hd hn ⊢
    rw [Nat.max_eq_left (by omega)]
    have e2 : wr (laid (w2 l.length ++ szs l) (back (l.drop (firstE l + 1))) d (back (l.take (firstE l))) (512 - need l - d.length)) 0 l.length = laid (w2 l.length ++ szs l) (back (l.drop (firstE l + 1))) d (back (l.take (firstE l))) (512 - need l - d.length) := by
      unfold laid
      simp only [List.append_assoc]
      exact wr_head _ _ _
    rw [e2]
    exact wr_slot hk (some d) hd hf (by rw [firstE_none hk]; simp [dz]; omega)
theorem put_lay {l : List Sl} (hO : Ok l) {d : By} (hd : d.length ≤ 512 - need l) (st : Sto) : Does Try.prog 44 [.c (pgC l), spanE (firstE l : Int) (512 - dsum (l.take (firstE l)), 512 - dsum (l.take (firstE l)), false), .c (.sl 1 (byl d))] st fun r s => ∃ id, r = .c (.arr id 0 512) ∧ st id = none ∧ Le st s ∧ LiveP s id (laid (w2 l.length ++ szs l) (back (l.drop (firstE l + 1))) d (back (l.take (firstE l))) (512 - need l - d.length)) := by
  have h1 := dsum_first l
  have h2 := low_eq hO.fit
  have hlow := low_is hO
  rw [← h2] at hlow
  have h3 := lay_does (slot := (firstE l : Int)) (st := st) (data := d) pg_first (pg_length hO.fit) hlow (by simp; exact hd)
  rw [h2, back_length, show 512 - dsum l + dsum (l.drop (firstE l + 1)) = 512 - dsum (l.take (firstE l)) by have := hO.fit; unfold need at this; omega] at h3
  simpa [spanE, pgC] using h3
theorem put_is {l : List Sl} (hO : Ok l) {d : By} (hd : d.length ≤ 9223372036854775807) : Is Try.prog 13 [.c (pgC l), .c (.sl 1 (byl d))] (putR (putS l d)) := by
  have hlen := hO.len
  have hfit := hO.fit
  have hbl : ((byl d).length : Int) = (d.length : Int) := by rw [byl_length]
  have hfe := firstE_le l
  refine Is.of TP Try.func13 rfl rfl (Nat.le_of_ble_eq_true rfl) fun st => Pw.of TP [] ?_
  conv => whnf
  refine (check_pg hO).call ?_
  conv => whnf
  refine ⟨fun h => ?_, fun h => ?_⟩ <;> conv => whnf
  · exact absurd rfl h
  rw [hbl]
  refine ⟨fun h => ?_, fun h => ?_⟩ <;> conv => whnf
  · refine ⟨fun _ => false, st, putR (putS l d), ?_, fun id o h => ⟨h, rfl⟩, rfl, rfl⟩
    unfold putS
    rw [if_pos (by omega)]
    exact FV.t3 (FV.nil _ _ 1) (.refl _) (.refl _)
  refine (many_pg hO _).go ?_
  conv => whnf
  refine Pw.lp (σ := Nat) [0, 1, 8] (fun k => [(9, vI .i64 (k : Int))]) (fun k => k ≤ firstE l) (fun k => l.length - k) 0 ⟨rfl, trivial⟩ (Nat.zero_le _) fun k hk => Pw.of TP [] ?_
  conv => whnf
  have hfin : k < l.length → sz (l.getD k none) = 0 → k = firstE l := fun h1 h2 => by
    by_cases h3 : k < firstE l
    · obtain ⟨e, he⟩ := firstE_some h3
      simp [List.getD, he, sz] at h2
    · omega
  have hnx : k < l.length → 0 < sz (l.getD k none) → k + 1 ≤ firstE l := fun h1 h2 => by
    by_cases h3 : k < firstE l
    · exact h3
    · have e : k = firstE l := by omega
      have := firstE_none (l := l) (by omega)
      subst e
      simp [List.getD, h1, this, sz] at h2
  have hgd : ∀ h1 : k < l.length, l[k] = l.getD k none := fun h1 => by simp [List.getD, h1]
  refine ⟨fun h => ?_, fun h => ?_⟩ <;> conv => whnf
  case' refine_2.refine_2.refine_1 =>
    have hk' : k < l.length := by omega
    refine (size_pg hO hk' _).go ?_
    rw [hgd hk']
    conv => whnf
    refine ⟨fun h => ?_, fun h => ?_⟩
    · conv => whnf
      exact ⟨⟨rfl, rfl, rfl, trivial⟩, k + 1, ⟨congrArg (fun x => some (vI .i64 x)) (wrap_nat (n := 255) (by omega) (by decide)), trivial⟩, .refl _, hnx hk' (by omega), by omega⟩
    conv => whnf
    have hkf : k = firstE l := hfin hk' (by omega)
  case' refine_2.refine_2.refine_2 =>
    have hkf : k = firstE l := by omega
  all_goals
    clear hfin hnx hgd
    subst hkf
    have hmx : (if IntKind.i64.wrap ((firstE l : Int) + 1) > (l.length : Int) then IntKind.i64.wrap ((firstE l : Int) + 1) else (l.length : Int)) = ((max l.length (firstE l + 1) : Nat) : Int) := by
      rw [wrap_nat (n := 255) (by omega) (by decide)]
      split <;> omega
    rw [hbl]
    have hnd := need_putL l d
    have hne : ¬ (255 < d.length) := by omega
    have hw2 : IntKind.i64.wrap ((d.length : Int) + 2) = ((d.length + 2 : Nat) : Int) := by rw [wrap_id (by omega) (by omega)]; omega
    have hfind := find_is hO (firstE l : Int)
    rw [find_not (getS_none (fun e he => by
      have h3 := (List.getElem?_eq_some_iff.1 he)
      have h4 := firstE_none h3.1
      rw [h3.2] at h4; cases h4))] at hfind
    rw [Int.toNat_natCast] at hfind
    refine ⟨fun hE => ?_, fun hE => ?_⟩ <;> conv => whnf
    all_goals
      refine (room_is hO).call ?_
      conv => whnf
      try rw [hw2]
      refine ⟨fun hR => ?_, fun hR => ?_⟩ <;> conv => whnf
    case' refine_1.refine_1 =>
      have hbad : 512 < need (putL l d) := by rw [hnd, if_pos (by omega)]; omega
    case' refine_2.refine_1 =>
      have hbad : 512 < need (putL l d) := by rw [hnd, if_neg (by omega)]; omega
    case' refine_1.refine_2 =>
      have hgood : need (putL l d) ≤ 512 := by rw [hnd, if_pos (by omega)]; omega
    case' refine_2.refine_2 =>
      have hgood : need (putL l d) ≤ 512 := by rw [hnd, if_neg (by omega)]; omega
    case' refine_1.refine_1 | refine_2.refine_1 =>
      refine ⟨fun _ => false, st, putR (putS l d), ?_, fun id o h => ⟨h, rfl⟩, rfl, rfl⟩
      unfold putS
      rw [if_neg hne, if_pos hbad]
      exact FV.t3 (FV.nil _ _ 1) (.refl _) (.refl _)
    all_goals
      have hdz : d.length ≤ 512 - need l := by have := hnd; split at this <;> omega
      refine hfind.call ?_
      conv => whnf
      refine (put_lay hO hdz _).mono fun r s ⟨id, h1, h2, h3, h4⟩ => ?_
      subst h1
      conv => whnf
      rw [hmx]
      have hend := put_end hfit d hgood
      have hq : (laid (w2 l.length ++ szs l) (back (l.drop (firstE l + 1))) d (back (l.take (firstE l))) (512 - need l - d.length)).length = 512 := by
        have h5 := dsum_first l
        have h6 := low_eq hfit
        rw [laid_length, back_length, back_length]
        unfold need at *
        omega
      generalize laid (w2 l.length ++ szs l) (back (l.drop (firstE l + 1))) d (back (l.take (firstE l))) (512 - need l - d.length) = q at h4 hend hq
      refine (write_does h4 hq.symm (i := 0) (n := max l.length (firstE l + 1)) (by omega) (by rw [hq]; decide)).go ?_
      conv => whnf
      have hw3 : IntKind.i64.wrap (2 + IntKind.i64.wrap (2 * (firstE l : Int))) = ((2 + 2 * firstE l : Nat) : Int) := by
        rw [wrap_id (n := 2 * (firstE l : Int)) (by omega) (by omega), wrap_id (by omega) (by omega)]; omega
      have hw4 : IntKind.i64.wrap (((byl d).length : Int) + 1) = ((d.length + 1 : Nat) : Int) := by rw [hbl, wrap_id (by omega) (by omega)]; omega
      rw [hw3, hw4]
      have h7 : firstE l ≤ 254 := by
        have h8 := need_putL l d
        have := need_app l (some d)
        by_cases he : firstE l = l.length
        · rw [if_pos he] at h8; unfold need at *; omega
        · omega
      have hq2 : (wr q 0 (max l.length (firstE l + 1))).length = 512 := by rw [wr_length, hq]
      refine (write_does (p := wr q 0 (max l.length (firstE l + 1))) (upd_same _ _ _) hq2.symm (i := 2 + 2 * firstE l) (n := d.length + 1) (by omega) (by rw [hq2]; decide)).go ?_
      conv => whnf
      rw [upd_upd, hend]
      refine ⟨only id, st, putR (putS l d), ?_, fun i o hi => ?_, rfl, rfl⟩
      · unfold putS
        rw [if_neg hne, if_neg (by omega)]
        exact FV.t3 (FV.live (upd_same _ _ _) (pg_length hgood).symm) (.refl _) (.refl _)
      · exact old_only (h3.up2 h2) h2 i o hi
end Go.Proofs.Ytfkkajibaeppbaa.D
namespace Go.Proofs.Ytfkkajibaeppbaa.D
set_option linter.unusedVariables false
set_option linter.unusedSimpArgs false
open Go Go.Proofs.Ytfkkajibaeppbaa.D.Pm
set_option maxRecDepth 4000
def setS (l : List Sl) (slot : Int) (d : By) : List Sl × Nat := if 255 < d.length then ([], 3) else match getS l slot with
  | none => ([], 4)
  | some _ => if 512 < need (l.set slot.toNat (some d)) then ([], 5) else (l.set slot.toNat (some d), 0)
def setR (r : List Sl × Nat) : AV := .t [.c (if r.2 = 0 then pgC r.1 else .sl 1 []), vI .i64 (r.2 : Nat)]
theorem ok_set {l : List Sl} (hO : Ok l) {k : Nat} {d : By} (h1 : d.length ≤ 255) (h2 : need (l.set k (some d)) ≤ 512) : Ok (l.set k (some d)) :=
  ⟨h2, fun s hs => by
    rcases List.mem_or_eq_of_mem_set hs with h | h
    · exact hO.few s h
    · subst h; exact h1, last_set hO.last k d⟩
theorem slot_lay {l : List Sl} (hO : Ok l) {k : Nat} {d0 : By} (hk : l[k]? = some (some d0)) {d : By} (hd : d.length ≤ d0.length + (512 - need l)) (st : Sto) : Does Try.prog 44 [.c (pgC l), spanE (k : Int) (512 - dsum (l.take k) - d0.length, 512 - dsum (l.take k), true), .c (.sl 1 (byl d))] st fun r s => ∃ id, r = .c (.arr id 0 512) ∧ st id = none ∧ Le st s ∧ LiveP s id (laid (w2 l.length ++ szs l) (back (l.drop (k + 1))) d (back (l.take k)) (512 - need l + d0.length - d.length)) := by
  have hk' : k < l.length := (List.getElem?_eq_some_iff.1 hk).1
  have hd0 : l[k] = some d0 := (List.getElem?_eq_some_iff.1 hk).2
  have h1 := dsum_split hk'
  have h2 := low_eq hO.fit
  have hlow := low_is hO
  have hp := pg_parts hk'
  rw [hd0] at h1 hp
  rw [← h2] at hlow
  have h3 := lay_does (slot := (k : Int)) (st := st) (data := d) hp (pg_length hO.fit) hlow (by exact hd)
  have e1 : 512 - dsum l + dsum (l.drop (k + 1)) = 512 - dsum (l.take k) - d0.length := by have := hO.fit; unfold need at this; simp [dz] at h1; omega
  have e2 : 512 - dsum (l.take k) - d0.length + d0.length = 512 - dsum (l.take k) := by have := hO.fit; unfold need at this; simp [dz] at h1; omega
  rw [h2, back_length, e1] at h3
  simp only [dat] at h3
  rw [e2] at h3
  exact h3
theorem set_is {l : List Sl} (hO : Ok l) {d : By} (hd : d.length ≤ 100000) (slot : Int) : Is Try.prog 17 [.c (pgC l), vI .i64 slot, .c (.sl 1 (byl d))] (setR (setS l slot d)) := by
  have hlen := hO.len
  have hfit := hO.fit
  have hbl : ((byl d).length : Int) = (d.length : Int) := by rw [byl_length]
  have hfind := find_is hO slot
  refine Is.of TP Try.func17 rfl rfl (Nat.le_of_ble_eq_true rfl) fun st => Pw.of TP [] ?_
  conv => whnf
  refine (check_pg hO).call ?_
  conv => whnf
  refine ⟨fun h => ?_, fun h => ?_⟩ <;> conv => whnf
  · exact absurd rfl h
  rw [hbl]
  refine ⟨fun h => ?_, fun h => ?_⟩ <;> conv => whnf
  · refine ⟨fun _ => false, st, setR (setS l slot d), ?_, fun id o h => ⟨h, rfl⟩, rfl, rfl⟩
    unfold setS
    rw [if_pos (by omega)]
    exact FV.t2 (FV.nil _ _ 1) (.refl _)
  have hne : ¬ (255 < d.length) := by omega
  refine hfind.call ?_
  cases hg : getS l slot with
  | none =>
    rw [find_not hg]
    conv => whnf
    refine ⟨fun _ => false, st, setR (setS l slot d), ?_, fun id o h => ⟨h, rfl⟩, rfl, rfl⟩
    unfold setS
    rw [if_neg hne, hg]
    exact FV.t2 (FV.nil _ _ 1) (.refl _)
  | some d0 =>
    obtain ⟨k, rfl, hk, hq⟩ := find_some hg
    rw [hq]
    have hk' : k < l.length := (List.getElem?_eq_some_iff.1 hk).1
    have hd0 : l[k] = some d0 := (List.getElem?_eq_some_iff.1 hk).2
    have hsp := dsum_split hk'
    rw [hd0] at hsp
    simp only [dz] at hsp
    have hns := need_set hk' (some d)
    rw [hd0] at hns
    simp only [dz] at hns
    conv => whnf
    refine Pw.drw TP mixed (by kernel_rfl) ?_; conv => whnf
    have hw1 : IntKind.i64.wrap (((byl d).length : Int) - IntKind.i64.wrap (((512 - dsum (l.take k) : Nat) : Int) - ((512 - dsum (l.take k) - d0.length : Nat) : Int))) = (d.length : Int) - (d0.length : Int) := by
      unfold need at hfit
      rw [hbl, wrap_id (n := ((512 - dsum (l.take k) : Nat) : Int) - _) (by omega) (by omega), wrap_id (by omega) (by omega)]
      omega
    refine (room_is hO).draw ?_
    conv => whnf
    rw [hw1]
    have hsets : ((k : Nat) : Int).toNat = k := Int.toNat_natCast k
    refine ⟨fun h => ?_, fun h => ?_⟩ <;> conv => whnf
    · have hbad : 512 < need (l.set k (some d)) := by unfold need at *; omega
      refine ⟨fun _ => false, st, setR (setS l k d), ?_, fun id o h => ⟨h, rfl⟩, rfl, rfl⟩
      unfold setS
      rw [if_neg hne, hg]
      dsimp only
      rw [hsets, if_pos hbad]
      exact FV.t2 (FV.nil _ _ 1) (.refl _)
    · have hgood : need (l.set k (some d)) ≤ 512 := by unfold need at *; omega
      have hdz : d.length ≤ d0.length + (512 - need l) := by unfold need at *; omega
      refine (slot_lay hO hk hdz _).mono fun r s ⟨id, h1, h2, h3, h4⟩ => ?_
      subst h1
      conv => whnf
      have hend := wr_slot hk' (some d) hgood hfit (z := 512 - need l + d0.length - d.length) (by rw [hd0]; simp only [dz]; omega)
      have hq : (laid (w2 l.length ++ szs l) (back (l.drop (k + 1))) d (back (l.take k)) (512 - need l + d0.length - d.length)).length = 512 := by
        have h6 := low_eq hfit
        rw [laid_length, back_length, back_length]
        unfold need at *
        omega
      have hw3 : IntKind.i64.wrap (2 + IntKind.i64.wrap (2 * (k : Int))) = ((2 + 2 * k : Nat) : Int) := by
        rw [wrap_id (n := 2 * (k : Int)) (by omega) (by omega), wrap_id (by omega) (by omega)]; omega
      have hw4 : IntKind.i64.wrap (((byl d).length : Int) + 1) = ((d.length + 1 : Nat) : Int) := by rw [hbl, wrap_id (by omega) (by omega)]; omega
      rw [hw3, hw4]
      refine (write_does h4 hq.symm (i := 2 + 2 * k) (n := d.length + 1) (by rw [hq]; omega) (by rw [hq]; decide)).go ?_
      conv => whnf
      have hend2 : wr (laid (w2 l.length ++ szs l) (back (l.drop (k + 1))) d (back (l.take k)) (512 - need l + d0.length - d.length)) (2 + 2 * k) (d.length + 1) = pg (l.set k (some d)) := hend
      rw [hend2]
      refine ⟨only id, st, setR (setS l k d), ?_, fun i o hi => ?_, rfl, rfl⟩
      · unfold setS
        rw [if_neg hne, hg]
        dsimp only
        rw [hsets, if_neg (by omega)]
        exact FV.t2 (FV.live (upd_same _ _ _) (pg_length hgood).symm) (.refl _)
      · exact old_only (h3.up2 h2) h2 i o hi
def trimN : List Sl → Nat
  | [] => 0
  | a :: r => if trimN r = 0 ∧ a = none then 0 else trimN r + 1
theorem trimN_le : ∀ l, trimN l ≤ l.length
  | [] => Nat.le_refl _
  | a :: r => by have := trimN_le r; unfold trimN; split <;> simp <;> omega
theorem trimN_none : ∀ {l : List Sl} {k : Nat} (hk : k < l.length), trimN l ≤ k → l[k] = none
  | a :: r, 0, hk, h => by
    unfold trimN at h
    split at h
    · rename_i hh; exact hh.2
    · omega
  | a :: r, k + 1, hk, h => by
    have h' : trimN r ≤ k := by unfold trimN at h; split at h <;> omega
    simpa using trimN_none (l := r) (k := k) (by simpa using hk) h'
theorem trimN_some : ∀ {l : List Sl} (h : 0 < trimN l) (hk : trimN l - 1 < l.length), l[trimN l - 1] ≠ none
  | a :: r, h, hk => by
    by_cases h0 : trimN r = 0
    · have ha : a ≠ none := fun e => by unfold trimN at h; rw [if_pos ⟨h0, e⟩] at h; omega
      have e : trimN (a :: r) = 1 := by unfold trimN; rw [if_neg (fun hh => ha hh.2), h0]
      simpa [e] using ha
    · have e : trimN (a :: r) = trimN r + 1 := by
        conv => lhs; unfold trimN
        rw [if_neg (fun hh => h0 hh.1)]
      have := trimN_some (l := r) (by omega) (by have := trimN_le r; omega)
      have e2 : trimN (a :: r) - 1 = (trimN r - 1) + 1 := by omega
      simp only [e2, List.getElem_cons_succ]
      exact this
def trimL (l : List Sl) : List Sl := l.take (trimN l)
theorem trim_eq {l : List Sl} {m : Nat} (hm : m ≤ l.length) (h1 : ∀ k (hk : k < l.length), m ≤ k → l[k] = none) (h2 : ∀ (h : 0 < m), l[m - 1]'(by omega) ≠ none) : m = trimN l := by
  have h3 := trimN_le l
  rcases Nat.lt_trichotomy m (trimN l) with h | h | h
  · exact absurd (h1 (trimN l - 1) (by omega) (by omega)) (trimN_some (by omega) (by omega))
  · exact h
  · exact absurd (trimN_none (k := m - 1) (by omega) (by omega)) (h2 (by omega))
theorem tail_none : ∀ {l : List Sl}, (∀ s ∈ l, s = none) → dsum l = 0 ∧ back l = [] ∧ szs l = List.replicate (2 * l.length) 0
  | [], _ => ⟨rfl, rfl, rfl⟩
  | a :: l, h => by
    have ha := h a (List.mem_cons_self ..)
    subst ha
    obtain ⟨h1, h2, h3⟩ := tail_none (l := l) fun s hs => h s (List.mem_cons_of_mem _ hs)
    refine ⟨by simp [dsum, dz, h1], by simp [back, dat, h2], ?_⟩
    rw [szs_cons, h3, List.length_cons, show 2 * (l.length + 1) = 2 * l.length + 1 + 1 by omega, List.replicate_succ, List.replicate_succ]
    rfl
/-- the number at a page's head is made less -/
theorem pg_trim {l : List Sl} (hf : need l ≤ 512) {m : Nat} (hm : m ≤ l.length) (h1 : ∀ s ∈ l.drop m, s = none) : wr (pg l) 0 m = pg (l.take m) := by
  obtain ⟨h2, h3, h4⟩ := tail_none h1
  have hl : l = l.take m ++ l.drop m := (List.take_append_drop m l).symm
  have e1 : szs l = szs (l.take m) ++ List.replicate (2 * (l.length - m)) 0 := by
    conv => lhs; rw [hl, szs_app, h4, List.length_drop]
  have e2 : back l = back (l.take m) := by
    conv => lhs; rw [hl, back_app, h3, List.nil_append]
  have e3 : dsum l = dsum (l.take m) := by
    conv => lhs; rw [hl, dsum_app, h2, Nat.add_zero]
  have e4 : (l.take m).length = m := by rw [List.length_take]; omega
  unfold pg
  simp only [List.append_assoc]
  rw [wr_head, e1, e2, e4]
  have e5 : List.replicate (2 * (l.length - m)) (0 : UInt8) ++ (List.replicate (512 - need l) 0 ++ back (l.take m)) = List.replicate (512 - need (l.take m)) 0 ++ back (l.take m) := by
    rw [← List.append_assoc, List.replicate_append_replicate]
    congr 2
    unfold need at *
    rw [e4, ← e3]
    omega
  rw [List.append_assoc, e5]
def dropS (l : List Sl) (slot : Int) : List Sl × Nat := match getS l slot with
  | none => ([], 4)
  | some _ => (trimL (l.set slot.toNat none), 0)
theorem ok_trim {l : List Sl} (h1 : need l ≤ 512) (h2 : ∀ s ∈ l, dz s ≤ 255) : Ok (trimL l) := by
  have h3 := trimN_le l
  refine ⟨?_, fun s hs => h2 s (List.mem_of_mem_take hs), fun a ha => ?_⟩
  · have := dsum_take_le l (trimN l)
    unfold trimL need at *
    rw [List.length_take]
    omega
  · unfold trimL at ha
    rw [List.getLast?_eq_getElem?, List.length_take, Nat.min_eq_left h3] at ha
    by_cases h0 : 0 < trimN l
    · rw [List.getElem?_take_of_lt (by omega), List.getElem?_eq_getElem (by omega)] at ha
      cases ha
      exact trimN_some h0 (by omega)
    · rw [List.getElem?_eq_none (by rw [List.length_take]; omega)] at ha
      cases ha
end Go.Proofs.Ytfkkajibaeppbaa.D
namespace Go.Proofs.Ytfkkajibaeppbaa.D
set_option linter.unusedVariables false
set_option linter.unusedSimpArgs false
open Go Go.Proofs.Ytfkkajibaeppbaa.D.Pm
set_option maxRecDepth 4000
theorem size_live {st : Sto} {id : Nat} {l : List Sl} (hs : LiveP st id (pg l)) (hf : need l ≤ 512) (h2 : ∀ s ∈ l, dz s ≤ 255) {k : Nat} (hk : k < l.length) : Does Try.prog 41 [.c (.arr id 0 512), vI .i64 (k : Int)] st fun r s => r = vI .i64 (sz l[k] : Nat) ∧ s = st := by
  have hl : l.length ≤ 255 := by unfold need at hf; omega
  have := size_does (numA hs (by rw [pg_length hf]; decide) (pg_length hf).symm) (k := k) (by rw [pg_length hf]; omega) (by rw [pg_length hf]; decide)
  rwa [pg_size0 h2 hk] at this
theorem many_live {st : Sto} {id : Nat} {l : List Sl} (hs : LiveP st id (pg l)) (hf : need l ≤ 512) : Does Try.prog 40 [.c (.arr id 0 512)] st fun r s => r = vI .i64 (l.length : Nat) ∧ s = st := by
  have := many_does (numA hs (by rw [pg_length hf]; decide) (pg_length hf).symm) (by rw [pg_length hf]; decide)
  rwa [pg_many0 hf] at this
theorem drop_is {l : List Sl} (hO : Ok l) (slot : Int) : Is Try.prog 14 [.c (pgC l), vI .i64 slot] (setR (dropS l slot)) := by
  have hlen := hO.len
  have hfit := hO.fit
  have hfind := find_is hO slot
  refine Is.of TP Try.func14 rfl rfl (Nat.le_of_ble_eq_true rfl) fun st => Pw.of TP [] ?_
  conv => whnf
  refine (check_pg hO).call ?_
  conv => whnf
  refine ⟨fun h => ?_, fun h => ?_⟩ <;> conv => whnf
  · exact absurd rfl h
  refine hfind.call ?_
  cases hg : getS l slot with
  | none =>
    rw [find_not hg]
    conv => whnf
    refine ⟨fun _ => false, st, setR (dropS l slot), ?_, fun id o h => ⟨h, rfl⟩, rfl, rfl⟩
    unfold dropS
    rw [hg]
    exact FV.t2 (FV.nil _ _ 1) (.refl _)
  | some d0 =>
    obtain ⟨k, rfl, hk, hq⟩ := find_some hg
    rw [hq]
    have hk' : k < l.length := (List.getElem?_eq_some_iff.1 hk).1
    have hd0 : l[k] = some d0 := (List.getElem?_eq_some_iff.1 hk).2
    have hns := need_set hk' none
    rw [hd0] at hns
    simp only [dz] at hns
    have hfew : ∀ s ∈ l.set k none, dz s ≤ 255 := fun s hs => by
      rcases List.mem_or_eq_of_mem_set hs with h | h
      · exact hO.few s h
      · subst h; exact Nat.zero_le _
    have hgood : need (l.set k none) ≤ 512 := by omega
    conv => whnf
    refine Does.args (as' := [.c (pgC l), spanE (k : Int) (512 - dsum (l.take k) - d0.length, 512 - dsum (l.take k), true), .c (.sl 1 (byl []))]) rfl (fun j r r' h1 h2 => ?_) ?_
    · match j, h1, h2 with
      | 0, h1, h2 => cases h1; cases h2; exact .refl _
      | 1, h1, h2 => cases h1; cases h2; exact .refl _
      | 2, h1, h2 => cases h1; cases h2; exact FV.nil _ _ 1
      | j + 3, h1, h2 => simp at h1
    refine (slot_lay hO hk (d := []) (Nat.zero_le _) _).mono fun r s ⟨id, h1, h2, h3, h4⟩ => ?_
    subst h1
    conv => whnf
    have hend := wr_slot hk' none hgood hfit (z := 512 - need l + d0.length - 0) (by rw [hd0]; simp only [dz]; omega)
    have hq : (laid (w2 l.length ++ szs l) (back (l.drop (k + 1))) [] (back (l.take k)) (512 - need l + d0.length - 0)).length = 512 := by
      have h6 := low_eq hfit
      have hsp := dsum_split hk'
      rw [hd0] at hsp
      simp only [dz] at hsp
      rw [laid_length, back_length, back_length]
      unfold need at *
      simp only [List.length_nil]
      omega
    have hw3 : IntKind.i64.wrap (2 + IntKind.i64.wrap (2 * (k : Int))) = ((2 + 2 * k : Nat) : Int) := by
      rw [wrap_id (n := 2 * (k : Int)) (by omega) (by omega), wrap_id (by omega) (by omega)]; omega
    rw [hw3]
    refine (write_does h4 hq.symm (i := 2 + 2 * k) (n := 0) (by rw [show (([] : By).length) = 0 from rfl, hq]; omega) (by rw [show (([] : By).length) = 0 from rfl, hq]; decide)).go ?_
    conv => whnf
    have hend2 : wr (laid (w2 l.length ++ szs l) (back (l.drop (k + 1))) [] (back (l.take k)) (512 - need l + d0.length - ([] : By).length)) (2 + 2 * k) 0 = pg (l.set k none) := hend
    rw [hend2]
    have hsetl : (l.set k none).length = l.length := List.length_set
    have hres : dropS l k = (trimL (l.set k none), 0) := by unfold dropS; rw [hg]; dsimp only; rw [Int.toNat_natCast]
    rw [hres]
    clear hres hend hend2 hns hfind hg hq hw3 hk hd0
    generalize l.set k none = L at hgood hfew hsetl
    have hL : LiveP (upd s id (.ar 1 (byl (pg L)))) id (pg L) := upd_same _ _ _
    have hle : Le st (upd s id (.ar 1 (byl (pg L)))) := h3.up2 h2
    generalize upd s id (.ar 1 (byl (pg L))) = S at hL hle
    refine (many_live hL hgood).go ?_
    conv => whnf
    refine Pw.lp (σ := Nat) [9] (fun m => [(10, vI .i64 (m : Int))]) (fun m => m ≤ L.length ∧ ∀ k (hk : k < L.length), m ≤ k → L[k] = none) (fun m => m) L.length ⟨rfl, trivial⟩ ⟨Nat.le_refl _, fun k hk h => by omega⟩ fun m hm => Pw.of TP [] ?_
    obtain ⟨hm1, hm2⟩ := hm
    conv => whnf
    have hw5 : 0 < m → IntKind.i64.wrap ((m : Int) - 1) = ((m - 1 : Nat) : Int) := fun h => by rw [wrap_id (by omega) (by omega)]; omega
    refine ⟨fun h => ?_, fun h => ?_⟩ <;> conv => whnf
    case' refine_2.some.refine_2.refine_1 =>
      have hm0 : 0 < m := by omega
      rw [hw5 hm0]
      refine (size_live hL hgood hfew (show m - 1 < L.length by omega)).go ?_
      conv => whnf
      refine ⟨fun h => ?_, fun h => ?_⟩
      · conv => whnf
        rw [hw5 hm0]
        refine ⟨⟨rfl, trivial⟩, m - 1, ⟨rfl, trivial⟩, .refl _, ⟨by omega, fun k hk (h : m - 1 ≤ k) => ?_⟩, by omega⟩
        by_cases e : k = m - 1
        · subst e
          cases hs : L[m - 1] with
          | none => rfl
          | some e =>
            have h9 : sz L[m - 1] = 0 := by omega
            rw [hs] at h9
            cases h9
        · exact hm2 k hk (by omega)
      conv => whnf
      have hmt : m = trimN L := trim_eq hm1 hm2 fun h0 e => by rw [e] at h; exact h rfl
    case' refine_2.some.refine_2.refine_2 =>
      have hmt : m = trimN L := trim_eq hm1 hm2 fun h0 => by omega
    all_goals
      have hpt := pg_trim hgood hm1 (fun s hs => by
        obtain ⟨j, hj, rfl⟩ := List.getElem_of_mem hs
        rw [List.getElem_drop]
        exact hm2 _ _ (by omega))
      refine (write_does hL (pg_length hgood).symm (i := 0) (n := m) (by rw [pg_length hgood]; decide) (by rw [pg_length hgood]; decide)).go ?_
      conv => whnf
      rw [hpt, hmt]
      have hot : need (trimL L) ≤ 512 := (ok_trim hgood hfew).fit
      refine ⟨only id, st, setR (trimL L, 0), ?_, fun i o hi => ?_, rfl, rfl⟩
      · exact FV.t2 (FV.live (p := pg (trimL L)) (upd_same _ _ _) (pg_length hot).symm) (.refl _)
      · exact old_only (hle.up2 h2) h2 i o hi
end Go.Proofs.Ytfkkajibaeppbaa.D
