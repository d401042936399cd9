/- Words and contracts: a plain machine over the model, and what the functions that a law reaches come to, each for every input that its theorem names. -/
import Derived.Test.YtfkkajibaeppbaaK1
namespace Go.Proofs.Ytfkkajibaeppbaa.D
set_option linter.unusedVariables false
set_option linter.unusedSimpArgs false
open Go Go.Proofs.Ytfkkajibaeppbaa.D.Pm
set_option maxRecDepth 4000
theorem same_is (a b : By) (ha : a.length ≤ Big) : Is Try.prog 19 [.c (.sl 1 (byl a)), .c (.sl 1 (byl b))] (vB (decide (a = b))) := by
  refine Is.of TP Try.func19 rfl rfl (Nat.le_of_ble_eq_true rfl) fun st => Pw.of TP [] ?_
  conv => whnf
  have hab : ((byl a).length : Int) = (byl b).length ↔ a.length = b.length := by rw [byl_length, byl_length]; omega
  refine ⟨fun h => ?_, fun h => ?_⟩ <;> conv => whnf
  · refine Fin.old (congrArg vB ?_) (.refl _)
    exact (decide_eq_false fun e => h (by rw [e])).symm
  have hl : a.length = b.length := hab.1 (by omega)
  refine Pw.rng (τ := Unit) 5 a.length ha [0, 1] (fun _ => []) (fun i _ => a.take i = b.take i) () rfl trivial rfl fun i _ hi hx => Pw.of TP [] ?_
  conv => whnf
  have hla : ((byl a).length : Int) = (a.length : Nat) := by rw [byl_length]
  refine ⟨fun h => ?_, fun h => ?_⟩ <;> conv => whnf
  · have hi' : i < a.length := by omega
    refine Pw.drw TP mixed (by kernel_rfl) ?_; conv => whnf
    refine ixb rfl hi' ?_
    conv => whnf
    refine ixb rfl (show i < b.length by omega) ?_
    conv => whnf
    refine ⟨fun h => ?_, fun h => ?_⟩ <;> conv => whnf
    · refine Fin.old (congrArg vB ?_) (.refl _)
      refine (decide_eq_false fun e => ?_).symm
      subst e
      exact absurd rfl (by assumption)
    · refine ⟨hi', rfl, ⟨rfl, rfl, trivial⟩, (), trivial, .refl _, ?_⟩
      have e : a[i] = b[i] := by
        have h1 : ((a[i].toNat : Nat) : Int) = (b[i].toNat : Nat) := by omega
        exact UInt8.toNat_inj.1 (by omega)
      rw [List.take_succ_eq_append_getElem hi', List.take_succ_eq_append_getElem (by omega), hx, e]
  · have hi' : i = a.length := by omega
    subst hi'
    refine Fin.old (congrArg vB ?_) (.refl _)
    rw [List.take_length, List.take_of_length_le (by omega)] at hx
    exact (decide_eq_true hx).symm
def eSl (s : Sl) : List AC := match s with
  | none => [.v (.bool false), .sl 1 []]
  | some d => [.v (.bool true), .sl 1 (byl d)]
def eSls (l : List Sl) : AC := .sl 2 (l.map eSl)
theorem eSl_length (s : Sl) : (eSl s).length = 2 := by cases s <;> rfl
theorem size_is (l : List Sl) (hl : l.length ≤ 100000) (hd : ∀ s ∈ l, dz s ≤ 100000) : Is Try.prog 22 [.c (eSls l)] (vI .i64 (need l : Nat)) := by
  refine Is.of TP Try.func22 rfl rfl (Nat.le_of_ble_eq_true rfl) fun st => Pw.of TP [] ?_
  conv => whnf
  have hll : ((l.map eSl).length : Int) = (l.length : Nat) := by rw [List.length_map]
  have hw : IntKind.i64.wrap (2 + IntKind.i64.wrap (2 * ((l.map eSl).length : Int))) = ((2 + 2 * l.length : Nat) : Int) := by
    rw [hll, wrap_id (n := 2 * (l.length : Int)) (by omega) (by omega), wrap_id (by omega) (by omega)]; omega
  rw [hw]
  have hbd : ∀ k, dsum (l.take k) ≤ 100000 * k := by
    intro k
    induction k with
    | zero => simp [dsum]
    | succ k ih =>
      by_cases hk : k < l.length
      · rw [dsum_take hk]; have := hd _ (List.getElem_mem hk); omega
      · rw [List.take_of_length_le (by omega)] at ih ⊢; omega
  refine Pw.rng (τ := Nat) 4 l.length (by unfold Big; omega) [0] (fun k => [(3, vI .i64 ((2 + 2 * l.length + dsum (l.take k) : Nat) : Int))]) (fun i k => k = i) 0 rfl ⟨rfl, trivial⟩ rfl fun i k hi hk => Pw.of TP [] ?_
  subst hk
  conv => whnf
  refine ⟨fun h => ?_, fun h => ?_⟩ <;> conv => whnf
  · have hi' : k < l.length := by omega
    have hs := dsum_take hi'
    have hb1 := hbd (k + 1)
    refine ixm hi' ?_
    generalize l[k] = s at hs
    have hw2 : IntKind.i64.wrap (((2 + 2 * l.length + dsum (l.take k) : Nat) : Int) + (dz s : Nat)) = ((2 + 2 * l.length + dsum (l.take (k + 1)) : Nat) : Int) := by
      rw [wrap_id (by omega) (by omega)]; omega
    cases s with
    | none =>
      conv => whnf
      exact ⟨hi', rfl, ⟨rfl, trivial⟩, k + 1, ⟨congrArg (fun x => some (vI .i64 x)) hw2, trivial⟩, .refl _, rfl⟩
    | some d =>
      conv => whnf
      have hdl : ((byl d).length : Int) = (d.length : Nat) := by rw [byl_length]
      refine ⟨hi', rfl, ⟨rfl, trivial⟩, k + 1, ⟨?_, trivial⟩, .refl _, rfl⟩
      refine Eq.trans ?_ (congrArg (fun x => some (vI .i64 x)) hw2)
      exact congrArg (fun x : Int => some (vI .i64 (IntKind.i64.wrap (((2 + 2 * l.length + dsum (l.take k) : Nat) : Int) + x)))) hdl
  · have hi' : k = l.length := by omega
    subst hi'
    refine Fin.old (congrArg (vI .i64) ?_) (.refl _)
    rw [List.take_length]
    rfl
theorem has_is (l : List Sl) (slot : Int) : Is Try.prog 65 [.c (eSls l), vI .i64 slot] (vB (getS l slot).isSome) := by
  refine Is.of TP Try.func65 rfl rfl (Nat.le_of_ble_eq_true rfl) fun st => Pw.of TP [] ?_
  conv => whnf
  have hll : ((l.map eSl).length : Int) = (l.length : Nat) := by rw [List.length_map]
  refine ⟨fun h => ?_, fun h => ?_⟩ <;> conv => whnf
  · refine ⟨fun h => ?_, fun h => ?_⟩ <;> conv => whnf
    · have hi : slot.toNat < l.length := by omega
      have e : slot = ((slot.toNat : Nat) : Int) := by omega
      rw [e]
      generalize slot.toNat = k at hi
      refine ixm hi ?_
      have hg : getS l (k : Int) = l[k] := by
        unfold getS
        rw [if_neg (by omega), Int.toNat_natCast, List.getElem?_eq_getElem hi]
        rfl
      rw [hg]
      generalize l[k] = s
      cases s <;> conv => whnf
      all_goals exact Fin.pure
    · refine Fin.old (congrArg vB ?_) (.refl _)
      unfold getS
      rw [if_neg (by omega), List.getElem?_eq_none (by omega)]
      rfl
  · refine Fin.old (congrArg vB ?_) (.refl _)
    unfold getS
    rw [if_pos (by omega)]
    rfl
theorem copied_does (l : List Sl) (hl : l.length ≤ 100000) (st : Sto) : Does Try.prog 64 [.c (eSls l)] st fun r s => ∃ a, r = .c a ∧ Grow st 2 s a (l.map eSl) := by
  refine Does.of TP Try.func64 rfl rfl (Nat.le_of_ble_eq_true rfl) (Pw.of TP [] ?_)
  conv => whnf
  refine (Grow.nil (st0 := st) (sz := 2) (.refl _)).app (by simp; unfold maxLen; omega) (by simp; omega) fun a s hg hk => ?_
  conv => whnf
  exact Fin.same rfl (.refl _) ⟨a, rfl, by simpa using hg⟩
end Go.Proofs.Ytfkkajibaeppbaa.D
namespace Go.Proofs.Ytfkkajibaeppbaa.D
set_option linter.unusedVariables false
set_option linter.unusedSimpArgs false
open Go Go.Proofs.Ytfkkajibaeppbaa.D.Pm
set_option maxRecDepth 4000
def rputR (r : List Sl × Nat × Nat) : AV := .t [.c (if r.2.2 = 0 then eSls r.1 else .sl 2 []), vI .i64 (r.2.1 : Nat), vI .i64 (r.2.2 : Nat)]
def rsetR (r : List Sl × Nat) : AV := .t [.c (if r.2 = 0 then eSls r.1 else .sl 2 []), vI .i64 (r.2 : Nat)]
theorem eSls_row {l : List Sl} : ∀ r ∈ l.map eSl, r.length = 2 := fun r hr => by
  obtain ⟨s, _, rfl⟩ := List.mem_map.1 hr
  exact eSl_length s
theorem map_set {l : List Sl} (k : Nat) (s : Sl) : (l.map eSl).set k (eSl s) = (l.set k s).map eSl := by rw [List.map_set]
/-- a slot of a live list is written -/
theorem Pm.Grow.wr {st0 s : Sto} {a : AC} {rows : List (List AC)} {id k : Nat} {q : List AC} (hg : Grow st0 2 s a rows) (ha : a = .arr id 0 rows.length) : Grow st0 2 (upd s id (.ar 2 (rows.set k q))) a (rows.set k q) := by
  subst ha
  obtain ⟨h1, h2⟩ := hg
  rcases h2 with ⟨h, _⟩ | ⟨id2, h3, h4, h5⟩
  · cases h
  · cases h3
    exact ⟨h1.up2 h5, .inr ⟨id, by rw [List.length_set], upd_same _ _ _, h5⟩⟩
theorem Pm.Grow.arr {st0 s : Sto} {a : AC} {rows : List (List AC)} {sz : Nat} (hg : Grow st0 sz s a rows) (h : rows ≠ []) : ∃ id, a = .arr id 0 rows.length ∧ s id = some (.ar sz rows) ∧ st0 id = none := by
  rcases hg.2 with ⟨_, h2⟩ | h2
  · exact absurd h2 h
  · exact h2
theorem putL_len (l : List Sl) (d : By) : (putL l d).length ≤ l.length + 1 := by
  unfold putL; split <;> simp
theorem putL_dz {l : List Sl} {d : By} (hdz : ∀ s ∈ l, dz s ≤ 255) (hd : d.length ≤ 100000) : ∀ s ∈ putL l d, dz s ≤ 100000 := fun s hs => by
  by_cases he : firstE l = l.length
  · unfold putL at hs
    rw [if_pos he] at hs
    rcases List.mem_append.1 hs with h | h
    · have := hdz s h; omega
    · simp at h; subst h; exact hd
  · unfold putL at hs
    rw [if_neg he] at hs
    rcases List.mem_or_eq_of_mem_set hs with h | h
    · have := hdz s h; omega
    · subst h; exact hd
theorem rput_is {l : List Sl} (hl : l.length ≤ 50000) (hdz : ∀ s ∈ l, dz s ≤ 255) (d : By) (hd : d.length ≤ 100000) : Is Try.prog 48 [.c (eSls l), .c (.sl 1 (byl d))] (rputR (putS l d)) := by
  have hbl : ((byl d).length : Int) = (d.length : Int) := by rw [byl_length]
  have hll : ((l.map eSl).length : Int) = (l.length : Nat) := by rw [List.length_map]
  have hfe := firstE_le l
  refine Is.of TP Try.func48 rfl rfl (Nat.le_of_ble_eq_true rfl) fun st => Pw.of TP [9, 10] ?_
  conv => whnf
  rw [hbl]
  refine ⟨fun h => ?_, fun h => ?_⟩ <;> conv => whnf
  · refine ⟨fun _ => false, st, rputR (putS l d), ?_, fun id o h => ⟨h, rfl⟩, rfl, rfl⟩
    unfold putS
    rw [if_pos (by omega)]
    exact FV.t3 (FV.nil _ _ 2) (.refl _) (.refl _)
  have hne : ¬ (255 < d.length) := by omega
  refine Pw.lp (σ := Nat) [0, 1] (fun k => [(7, vI .i64 (k : Int))]) (fun k => k ≤ firstE l) (fun k => l.length - k) 0 ⟨rfl, trivial⟩ (Nat.zero_le _) fun k hk => Pw.of TP [9, 10] ?_
  conv => whnf
  have hnx : ∀ h1 : k < l.length, ∀ e, l[k] = some e → k + 1 ≤ firstE l := fun h1 e he => by
    by_cases h3 : k < firstE l
    · exact h3
    · have e2 : k = firstE l := by omega
      subst e2
      rw [firstE_none h1] at he
      cases he
  have hst : ∀ h1 : k < l.length, l[k] = none → k = firstE l := fun h1 he => by
    by_cases h3 : k < firstE l
    · obtain ⟨e, h4⟩ := firstE_some h3
      rw [List.getElem?_eq_getElem h1, he] at h4
      cases h4
    · omega
  refine ⟨fun h => ?_, fun h => ?_⟩ <;> conv => whnf
  case' refine_2.refine_1 =>
    have hi : k < l.length := by omega
    have hnx' := hnx hi
    have hst' := hst hi
    refine ixm hi ?_
    generalize l[k] = s at hnx' hst'
    rcases s with _ | e
    rotate_left
    · conv => whnf
      refine ⟨⟨rfl, rfl, trivial⟩, k + 1, ⟨?_, trivial⟩, .refl _, hnx' e rfl, by omega⟩
      exact congrArg (fun x => some (vI .i64 x)) (wrap_nat (n := 50000) (by omega) (by decide))
    conv => whnf
    have hkf : k = firstE l := hst' rfl
    clear hnx' hst'
  case' refine_2.refine_2 =>
    have hkf : k = firstE l := by omega
  all_goals
    subst hkf
    clear hnx hst
    refine (copied_does l (by omega) _).mono fun r s' ⟨a', h1, hg⟩ => ?_
    subst h1
    conv => whnf
    refine ⟨fun hE => ?_, fun hE => ?_⟩ <;> conv => whnf
    case' refine_1 =>
      have hE' : firstE l = l.length := by omega
      refine hg.app (by simp; unfold maxLen; omega) (by simp; omega) fun a' s' hg' hk' => ?_
      conv => whnf
      have hG : Grow st 2 s' a' (l.map eSl ++ [[.v (.bool false), .v (.slice none 0 0)]]) := hg'
      have h2 : (l.map eSl ++ [[AC.v (.bool false), AC.v (.slice none 0 0)]])[firstE l]? = some [AC.v (.bool false), AC.v (.slice none 0 0)] := by
        rw [hE', List.getElem?_append_right (by simp)]; simp
      have h3 : (l.map eSl ++ [[AC.v (.bool false), AC.v (.slice none 0 0)]]).set (firstE l) (eSl (some d)) = (putL l d).map eSl := by
        unfold putL
        rw [if_pos hE', hE', List.set_append_right _ _ (by simp)]
        simp
      clear hg' hk' hg
      generalize l.map eSl ++ [[AC.v (.bool false), AC.v (.slice none 0 0)]] = rows at hG h2 h3
    case' refine_2 =>
      have hE' : firstE l < l.length := by omega
      have hG := hg
      have h2 : (l.map eSl)[firstE l]? = some [AC.v (.bool false), AC.sl 1 []] := by
        rw [List.getElem?_map, List.getElem?_eq_getElem hE', firstE_none hE']; rfl
      have h3 : (l.map eSl).set (firstE l) (eSl (some d)) = (putL l d).map eSl := by
        unfold putL
        rw [if_neg (by omega), map_set]
      clear hg
      generalize hrr : l.map eSl = rows at hG h2 h3
      clear hrr
    all_goals
      obtain ⟨id, e1, hid, h0⟩ := hG.arr (fun e => by rw [e] at h2; simp at h2)
      have hlt := (List.getElem?_eq_some_iff.1 h2).1
      have hg2 := hG.wr (k := firstE l) (q := eSl (some d)) e1
      rw [h3] at hg2
      subst e1
      refine Pw.of TP [10] ?_
      conv => whnf
      refine ⟨by omega, by omega, ⟨_, hid⟩, ?_⟩
      conv => whnf
      obtain ⟨x0, y0, h2⟩ : ∃ x y, rows[firstE l]? = some [x, y] := ⟨_, _, h2⟩
      refine ⟨2, rows, [x0, y0], hid, (by rw [Nat.zero_add, Int.toNat_natCast]; exact h2), Nat.le_refl 2, ?_⟩
      conv => whnf
      refine Pw.gen fun S hS => ?_
      have hS2 : S = upd s' id (.ar 2 ((putL l d).map eSl)) := by
        rw [hS]
        refine congrArg (fun r => upd s' id (.ar 2 r)) ?_
        rw [← h3, Nat.zero_add, Int.toNat_natCast]
        rfl
      rw [← hS2] at hg2
      refine Pw.frzG 8 [7] hg2 eSls_row rfl (Pw.of TP [] ?_)
      conv => whnf
      refine (size_is (putL l d) (by have := putL_len l d; omega) (putL_dz hdz hd)).call ?_
      conv => whnf
      refine ⟨fun hB => ?_, fun hB => ?_⟩ <;> conv => whnf
      · refine ⟨fun _ => false, st, rputR (putS l d), ?_, fun id o h => ⟨h, rfl⟩, rfl, rfl⟩
        unfold putS
        rw [if_neg hne, if_pos (by omega)]
        exact FV.t3 (FV.nil _ _ 2) (.refl _) (.refl _)
      · refine Fin.old ?_ (.refl _)
        unfold putS
        rw [if_neg hne, if_neg (by omega)]
        rfl
end Go.Proofs.Ytfkkajibaeppbaa.D
namespace Go.Proofs.Ytfkkajibaeppbaa.D
set_option linter.unusedVariables false
set_option linter.unusedSimpArgs false
open Go Go.Proofs.Ytfkkajibaeppbaa.D.Pm
set_option maxRecDepth 4000
theorem eSl_two (s : Sl) : ∃ x y, eSl s = [x, y] := by cases s <;> exact ⟨_, _, rfl⟩
theorem rset_is {l : List Sl} (hl : l.length ≤ 50000) (hdz : ∀ s ∈ l, dz s ≤ 255) (d : By) (hd : d.length ≤ 100000) (slot : Int) : Is Try.prog 49 [.c (eSls l), vI .i64 slot, .c (.sl 1 (byl d))] (rsetR (setS l slot d)) := by
  have hbl : ((byl d).length : Int) = (d.length : Int) := by rw [byl_length]
  refine Is.of TP Try.func49 rfl rfl (Nat.le_of_ble_eq_true rfl) fun st => Pw.of TP [7] ?_
  conv => whnf
  rw [hbl]
  refine ⟨fun h => ?_, fun h => ?_⟩ <;> conv => whnf
  · refine ⟨fun _ => false, st, rsetR (setS l slot d), ?_, fun id o h => ⟨h, rfl⟩, rfl, rfl⟩
    unfold setS
    rw [if_pos (by omega)]
    exact FV.t2 (FV.nil _ _ 2) (.refl _)
  have hne : ¬ (255 < d.length) := by omega
  refine (has_is l slot).call ?_
  cases hg : getS l slot with
  | none =>
    conv => whnf
    refine ⟨fun _ => false, st, rsetR (setS l slot d), ?_, fun id o h => ⟨h, rfl⟩, rfl, rfl⟩
    unfold setS
    rw [if_neg hne, hg]
    exact FV.t2 (FV.nil _ _ 2) (.refl _)
  | some d0 =>
    obtain ⟨k, rfl, hk, _⟩ := find_some hg
    have hk' : k < l.length := (List.getElem?_eq_some_iff.1 hk).1
    conv => whnf
    refine (copied_does l (by omega) _).mono fun r s' ⟨a', h1, hG⟩ => ?_
    subst h1
    conv => whnf
    obtain ⟨id, e1, hid, h0⟩ := hG.arr (fun e => by have := congrArg List.length e; rw [List.length_map, List.length_nil] at this; omega)
    have hg2 := hG.wr (k := k) (q := eSl (some d)) e1
    rw [map_set] at hg2
    subst e1
    obtain ⟨x0, y0, he⟩ := eSl_two l[k]
    have h2 : (l.map eSl)[k]? = some [x0, y0] := by rw [List.getElem?_map, List.getElem?_eq_getElem hk', ← he]; rfl
    refine ⟨by omega, by rw [List.length_map]; omega, ⟨_, hid⟩, ?_⟩
    conv => whnf
    refine ⟨2, l.map eSl, [x0, y0], hid, (by rw [Nat.zero_add, Int.toNat_natCast]; exact h2), Nat.le_refl 2, ?_⟩
    conv => whnf
    refine Pw.gen fun S hS => ?_
    have hS2 : S = upd s' id (.ar 2 ((l.set k (some d)).map eSl)) := by
      rw [hS]
      refine congrArg (fun r => upd s' id (.ar 2 r)) ?_
      rw [← map_set, Nat.zero_add, Int.toNat_natCast]
      rfl
    rw [← hS2] at hg2
    refine Pw.frzG 8 [7] hg2 eSls_row rfl (Pw.of TP [] ?_)
    conv => whnf
    refine (size_is (l.set k (some d)) (by rw [List.length_set]; omega) (fun s hs => by
      rcases List.mem_or_eq_of_mem_set hs with h | h
      · have := hdz s h; omega
      · subst h; exact hd)).call ?_
    conv => whnf
    refine ⟨fun hB => ?_, fun hB => ?_⟩ <;> conv => whnf
    · refine ⟨fun _ => false, st, rsetR (setS l k d), ?_, fun id o h => ⟨h, rfl⟩, rfl, rfl⟩
      unfold setS
      rw [if_neg hne, hg]
      dsimp only
      rw [Int.toNat_natCast, if_pos (by omega)]
      exact FV.t2 (FV.nil _ _ 2) (.refl _)
    · refine Fin.old ?_ (.refl _)
      unfold setS
      rw [if_neg hne, hg]
      dsimp only
      rw [Int.toNat_natCast, if_neg (by omega)]
      rfl
/-- a live list is settled, and seen otherwise -/
theorem Pm.Pw.frzV {P : Program} {N : Nat} {ρ : Option Nat} {st0 st : Sto} {id sz n : Nat} {rows rows' : List (List AC)} {env : Env} {c : Code} {Q : Exit → Env → Sto → Prop} (t : Nat) (keep : List Nat) (ho : st id = some (.ar sz rows)) (hle : Le st0 st) (h0 : st0 id = none) (hr : ∀ r ∈ rows', r.length = sz) (hlen : rows'.length = rows.length) (hn : n = rows.length)
    (hc : ∀ (i : Nat) r r' (j : Nat) c c', rows[i]? = some r → rows'[i]? = some r' → r[j]? = some c → r'[j]? = some c' → Fz (only id) st c c') (hl : Pm.look env t = some (.c (.arr id 0 n)))
    (h : Pw (ρ := ρ) P N c Q ((t, .c (.sl sz rows')) :: sub env keep) st0) : Pw (ρ := ρ) P N c Q env st := by
  refine Pw.vw (env' := (t, .c (.sl sz rows')) :: sub env keep) (st' := st0) ⟨only id, ⟨⟨_, hl, .c _ _ ?_⟩, ?_⟩, old_only hle h0⟩ h
  · subst hn
    refine Fz.arr id 0 rows.length sz rows rows' (by simp [only]) ho (by omega) hlen (fun i r hi => hr r (List.mem_of_getElem? hi)) (fun i r r' j c c' q1 q2 q3 q4 => hc i r r' j c c' (by rw [Nat.zero_add] at q1; exact q1) q2 q3 q4)
  · have key : ∀ l : Env, EVe env l → EV (only id) st env l := by
      intro l
      induction l with
      | nil => intro _; trivial
      | cons p l ih => intro h; exact ⟨⟨p.2, h.1, .refl _⟩, ih h.2⟩
    exact key _ (EVe.sub keep)
theorem trim_is {l : List Sl} (hl : l.length ≤ 50000) : Is Try.prog 66 [.c (eSls l)] (.c (eSls (trimL l))) := by
  have hll : ((l.map eSl).length : Int) = (l.length : Nat) := by rw [List.length_map]
  refine Is.of TP Try.func66 rfl rfl (Nat.le_of_ble_eq_true rfl) fun st => Pw.of TP [] ?_
  conv => whnf
  refine Pw.lp (σ := Nat) [0] (fun m => [(3, vI .i64 (m : Int))]) (fun m => m ≤ l.length ∧ ∀ k (hk : k < l.length), m ≤ k → l[k] = none) (fun m => m) l.length ⟨congrArg (fun x : Int => some (vI .i64 x)) hll, trivial⟩ ⟨Nat.le_refl _, fun k hk h => by omega⟩ fun m hm => Pw.of TP [] ?_
  obtain ⟨hm1, hm2⟩ := hm
  conv => whnf
  refine ⟨fun h => ?_, fun h => ?_⟩ <;> conv => whnf
  case' refine_1 =>
    have hm0 : 0 < m := by omega
    have hw5 : IntKind.i64.wrap ((m : Int) - 1) = ((m - 1 : Nat) : Int) := by rw [wrap_id (by omega) (by omega)]; omega
    have hk : m - 1 < l.length := by omega
    rw [hw5]
    refine ixm hk ?_
    have hend : ∀ h1 : 0 < m, l[m - 1] ≠ none → m = trimN l := fun _ e => trim_eq hm1 hm2 fun _ => e
    have hnx : l[m - 1] = none → ∀ k (hk : k < l.length), m - 1 ≤ k → l[k] = none := fun e k hk h => by
      by_cases e2 : k = m - 1
      · subst e2; exact e
      · exact hm2 k hk (by omega)
    generalize l[m - 1] = s at hend hnx
    rcases s with _ | e
    · conv => whnf
      rw [hw5]
      exact ⟨⟨rfl, trivial⟩, m - 1, ⟨rfl, trivial⟩, .refl _, ⟨by omega, hnx rfl⟩, by omega⟩
    conv => whnf
    have hmt : m = trimN l := hend hm0 (by simp)
  case' refine_2 =>
    have hmt : m = trimN l := trim_eq hm1 hm2 fun h0 => by omega
  all_goals
    refine ⟨by omega, by omega, by omega, ?_⟩
    conv => whnf
    refine Fin.old ?_ (.refl _)
    unfold trimL eSls
    rw [hmt, List.map_take]
    rfl
theorem rdrop_is {l : List Sl} (hl : l.length ≤ 50000) (slot : Int) : Is Try.prog 50 [.c (eSls l), vI .i64 slot] (rsetR (dropS l slot)) := by
  refine Is.of TP Try.func50 rfl rfl (Nat.le_of_ble_eq_true rfl) fun st => Pw.of TP [5] ?_
  conv => whnf
  refine (has_is l slot).call ?_
  cases hg : getS l slot with
  | none =>
    conv => whnf
    refine ⟨fun _ => false, st, rsetR (dropS l slot), ?_, fun id o h => ⟨h, rfl⟩, rfl, rfl⟩
    unfold dropS
    rw [hg]
    exact FV.t2 (FV.nil _ _ 2) (.refl _)
  | some d0 =>
    obtain ⟨k, rfl, hk, _⟩ := find_some hg
    have hk' : k < l.length := (List.getElem?_eq_some_iff.1 hk).1
    conv => whnf
    refine (copied_does l (by omega) _).mono fun r s' ⟨a', h1, hG⟩ => ?_
    subst h1
    conv => whnf
    obtain ⟨id, e1, hid, h0⟩ := hG.arr (fun e => by have := congrArg List.length e; rw [List.length_map, List.length_nil] at this; omega)
    have hle := hG.le
    subst e1
    obtain ⟨x0, y0, he⟩ := eSl_two l[k]
    have h2 : (l.map eSl)[k]? = some [x0, y0] := by rw [List.getElem?_map, List.getElem?_eq_getElem hk', ← he]; rfl
    refine ⟨by omega, by rw [List.length_map]; omega, ⟨_, hid⟩, ?_⟩
    conv => whnf
    refine ⟨2, l.map eSl, [x0, y0], hid, (by rw [Nat.zero_add, Int.toNat_natCast]; exact h2), Nat.le_refl 2, ?_⟩
    conv => whnf
    refine Pw.gen fun S hS => ?_
    have hS2 : S = upd s' id (.ar 2 ((l.map eSl).set k [.v (.bool false), .v (.slice none 0 0)])) := by
      rw [hS]
      refine congrArg (fun r => upd s' id (.ar 2 r)) ?_
      rw [Nat.zero_add, Int.toNat_natCast]
      rfl
    have hSid : S id = some (.ar 2 ((l.map eSl).set k [.v (.bool false), .v (.slice none 0 0)])) := by rw [hS2]; exact upd_same _ _ _
    have hSle : Le st S := by rw [hS2]; exact hle.up2 h0
    refine Pw.frzV (rows' := (l.set k none).map eSl) 6 [] hSid hSle h0 eSls_row (by simp) (by simp) (fun i r r' j c c' q1 q2 q3 q4 => ?_) rfl (Pw.of TP [] ?_)
    · rw [← map_set, List.getElem?_set] at q2
      rw [List.getElem?_set] at q1
      split at q1
      · rename_i e
        rw [if_pos e] at q2
        split at q1
        · rename_i e2
          rw [if_pos e2] at q2
          cases q1; cases q2
          match j, q3, q4 with
          | 0, q3, q4 => cases q3; cases q4; exact .refl _
          | 1, q3, q4 => cases q3; cases q4; exact .nil 1
          | j + 2, q3, q4 => simp at q3
        · cases q1
      · rename_i e
        rw [if_neg e] at q2
        rw [q1] at q2
        cases q2
        rw [q3] at q4
        cases q4
        exact .refl _
    conv => whnf
    refine (trim_is (l := l.set k none) (by rw [List.length_set]; omega)).call ?_
    conv => whnf
    refine Fin.old ?_ (.refl _)
    unfold dropS
    rw [hg]
    dsimp only
    rw [Int.toNat_natCast]
    rfl
end Go.Proofs.Ytfkkajibaeppbaa.D
namespace Go.Proofs.Ytfkkajibaeppbaa.D
set_option linter.unusedVariables false
set_option linter.unusedSimpArgs false
open Go Go.Proofs.Ytfkkajibaeppbaa.D.Pm
set_option maxRecDepth 4000
theorem slotL_app : ∀ (a b : List Sl) (i : Nat), slotL i (a ++ b) = slotL i a ++ slotL (i + a.length) b
  | [], b, i => rfl
  | none :: a, b, i => by rw [List.cons_append, slotL, slotL, slotL_app a b (i + 1), List.length_cons, Nat.add_right_comm, Nat.add_assoc]
  | some d :: a, b, i => by rw [List.cons_append, slotL, slotL, slotL_app a b (i + 1), List.length_cons, Nat.add_right_comm, Nat.add_assoc, List.cons_append]
theorem slotL_le : ∀ (l : List Sl) (i : Nat), (slotL i l).length ≤ l.length
  | [], _ => Nat.le_refl _
  | none :: l, i => by have := slotL_le l (i + 1); rw [slotL, List.length_cons]; omega
  | some d :: l, i => by have := slotL_le l (i + 1); rw [slotL, List.length_cons, List.length_cons]; omega
theorem nums_row {L : List Nat} : ∀ r ∈ nums L, r.length = 1 := fun r hr => by obtain ⟨n, _, rfl⟩ := List.mem_map.1 hr; rfl
theorem rslots_is {l : List Sl} (hl : l.length ≤ 50000) : Is Try.prog 25 [.c (eSls l)] (.c (.sl 1 (nums (slotL 0 l)))) := by
  have hll : ((l.map eSl).length : Int) = (l.length : Nat) := by rw [List.length_map]
  refine Is.of TP Try.func25 rfl rfl (Nat.le_of_ble_eq_true rfl) fun st => Pw.of TP [] ?_
  conv => whnf
  refine Pw.rngS (τ := AC × Sto) 4 l.length (by unfold Big; omega) [0] (fun i x => [(3, .c x.1)]) (fun i x => x.2) (fun i x => Grow st 1 x.2 x.1 (nums (slotL 0 (l.take i)))) (.v (.slice none 0 0), st) rfl ⟨rfl, trivial⟩ (.refl _) (.nil (.refl _)) fun i x hi hg => Pw.of TP [] ?_
  obtain ⟨a, s⟩ := x
  dsimp only at hg ⊢
  conv => whnf
  refine ⟨fun h => ?_, fun h => ?_⟩ <;> conv => whnf
  · have hi' : i < l.length := by omega
    have hlen : (slotL 0 (l.take i)).length ≤ i := by have := slotL_le (l.take i) 0; rw [List.length_take] at this; omega
    have hnx : slotL 0 (l.take (i + 1)) = slotL 0 (l.take i) ++ slotL i [l[i]] := by
      rw [List.take_succ_eq_append_getElem hi', slotL_app, List.length_take, Nat.min_eq_left (by omega), Nat.zero_add]
    refine ixm hi' ?_
    generalize l[i] = q at hnx
    rcases q with _ | d
    · conv => whnf
      refine ⟨hi', rfl, ⟨rfl, trivial⟩, (a, s), ⟨rfl, trivial⟩, .refl _, ?_⟩
      rw [hnx]
      simpa [slotL] using hg
    · conv => whnf
      refine hg.app (by simp only [nums, List.length_map]; show _ + 1 ≤ _; unfold maxLen; omega) (by simp only [nums, List.length_map]; show (_ + 1) * 8 ≤ _; omega) fun a' s' hg' hk => ?_
      conv => whnf
      refine ⟨hi', rfl, ⟨rfl, trivial⟩, (a', s'), ⟨rfl, trivial⟩, .refl _, ?_⟩
      rw [hnx, show nums (slotL 0 (l.take i) ++ slotL i [some d]) = nums (slotL 0 (l.take i)) ++ [[AC.v (.int .i64 (i : Int))]] by simp [nums, slotL]]
      exact hg'
  · have hi' : i = l.length := by omega
    subst hi'
    rw [List.take_length] at hg
    exact Fin.grow hg nums_row ⟨rfl, rfl⟩
theorem numbers_is (a b : List Nat) (ha : a.length ≤ Big) : Is Try.prog 24 [.c (.sl 1 (nums a)), .c (.sl 1 (nums b))] (vB (decide (a = b))) := by
  have hna : ((nums a).length : Int) = (a.length : Nat) := by simp [nums]
  have hnb : ((nums b).length : Int) = (b.length : Nat) := by simp [nums]
  refine Is.of TP Try.func24 rfl rfl (Nat.le_of_ble_eq_true rfl) fun st => Pw.of TP [] ?_
  conv => whnf
  refine ⟨fun h => ?_, fun h => ?_⟩ <;> conv => whnf
  · refine Fin.old (congrArg vB ?_) (.refl _)
    exact (decide_eq_false fun e => h (by rw [e])).symm
  have hl : a.length = b.length := by omega
  refine Pw.rng (τ := Unit) 5 a.length ha [0, 1] (fun _ => []) (fun i _ => a.take i = b.take i) () rfl trivial rfl fun i _ hi hx => Pw.of TP [] ?_
  conv => whnf
  refine ⟨fun h => ?_, fun h => ?_⟩ <;> conv => whnf
  · have hi' : i < a.length := by omega
    refine Pw.drw TP mixed (by kernel_rfl) ?_; conv => whnf
    refine ixm (l := a) (f := fun n : Nat => [AC.v (.int .i64 (n : Int))]) hi' ?_
    conv => whnf
    refine ixm (l := b) (f := fun n : Nat => [AC.v (.int .i64 (n : Int))]) (show i < b.length by omega) ?_
    conv => whnf
    refine ⟨fun h => ?_, fun h => ?_⟩ <;> conv => whnf
    · refine Fin.old (congrArg vB ?_) (.refl _)
      refine (decide_eq_false fun e => ?_).symm
      subst e
      exact absurd rfl (by assumption)
    · refine ⟨hi', rfl, ⟨rfl, rfl, trivial⟩, (), trivial, .refl _, ?_⟩
      have e : a[i] = b[i] := by omega
      rw [List.take_succ_eq_append_getElem hi', List.take_succ_eq_append_getElem (by omega), hx, e]
  · have hi' : i = a.length := by omega
    subst hi'
    refine Fin.old (congrArg vB ?_) (.refl _)
    rw [List.take_length, List.take_of_length_le (by omega)] at hx
    exact (decide_eq_true hx).symm
end Go.Proofs.Ytfkkajibaeppbaa.D
namespace Go.Proofs.Ytfkkajibaeppbaa.D
set_option linter.unusedVariables false
set_option linter.unusedSimpArgs false
open Go Go.Proofs.Ytfkkajibaeppbaa.D.Pm
set_option maxRecDepth 4000
/-- a page of which so many slots are laid -/
def pgk (l : List Sl) (k : Nat) : By := w2 l.length ++ szs (l.take k) ++ List.replicate (512 - 2 - 2 * k - dsum (l.take k)) 0 ++ back (l.take k)
theorem pgk_end {l : List Sl} : pgk l l.length = pg l := by
  unfold pgk pg need
  rw [List.take_length, show 512 - 2 - 2 * l.length - dsum l = 512 - (2 + 2 * l.length + dsum l) by omega]
theorem pgk_length {l : List Sl} {k : Nat} (hk : k ≤ l.length) (h : 2 + 2 * k + dsum (l.take k) ≤ 512) : (pgk l k).length = 512 := by
  unfold pgk
  simp only [List.length_append, szs_length, List.length_replicate, back_length, w2, List.length_cons, List.length_nil, List.length_take]
  omega
theorem back_snoc (l : List Sl) (s : Sl) : back (l ++ [s]) = dat s ++ back l := by rw [back_app]; simp [back]
theorem szs_snoc (l : List Sl) (s : Sl) : szs (l ++ [s]) = szs l ++ w2 (sz s) := by rw [szs_app]; simp [szs]
theorem pgk_none {l : List Sl} {k : Nat} (hk : k < l.length) (hn : l[k] = none) (h : 2 + 2 * (k + 1) + dsum (l.take k) ≤ 512) : pgk l (k + 1) = pgk l k := by
  unfold pgk
  rw [dsum_take hk, List.take_succ_eq_append_getElem hk, hn, back_snoc, szs_snoc]
  simp only [dz, sz, dat, List.nil_append, Nat.add_zero]
  rw [show 512 - 2 - 2 * k - dsum (l.take k) = (512 - 2 - 2 * (k + 1) - dsum (l.take k)) + 1 + 1 by omega, List.replicate_succ, List.replicate_succ]
  simp [w2, hi, lo, List.append_assoc]
/-- .. and of the next one so many bytes -/
def pgj (l : List Sl) (k : Nat) (d : By) (j : Nat) : By := w2 l.length ++ (szs (l.take k) ++ w2 (d.length + 1)) ++ List.replicate (512 - 4 - 2 * k - dsum (l.take k) - d.length) 0 ++ d.take j ++ List.replicate (d.length - j) 0 ++ back (l.take k)
theorem pgj_zero {l : List Sl} {k : Nat} (hk : k < l.length) {d : By} (h : 4 + 2 * k + dsum (l.take k) + d.length ≤ 512) : wr (pgk l k) (2 + 2 * k) (d.length + 1) = pgj l k d 0 := by
  have e : pgk l k = (w2 l.length ++ szs (l.take k)) ++ (0 :: 0 :: (List.replicate (512 - 4 - 2 * k - dsum (l.take k)) 0 ++ back (l.take k))) := by
    unfold pgk
    rw [show 512 - 2 - 2 * k - dsum (l.take k) = (512 - 4 - 2 * k - dsum (l.take k)) + 1 + 1 by omega, List.replicate_succ, List.replicate_succ]
    simp [List.append_assoc]
  rw [e, wr_mid _ _ _ _ _ _ (by rw [List.length_append, szs_length, List.length_take]; simp [w2]; omega)]
  unfold pgj
  rw [show 512 - 4 - 2 * k - dsum (l.take k) = (512 - 4 - 2 * k - dsum (l.take k) - d.length) + (d.length - 0) by omega, ← List.replicate_append_replicate]
  rw [show 512 - 4 - 2 * k - dsum (l.take k) - d.length + (d.length - 0) - d.length = 512 - 4 - 2 * k - dsum (l.take k) - d.length by omega]
  simp [List.append_assoc]
theorem pgj_end {l : List Sl} {k : Nat} (hk : k < l.length) {d : By} (hd : l[k] = some d) (h : 4 + 2 * k + dsum (l.take k) + d.length ≤ 512) : pgj l k d d.length = pgk l (k + 1) := by
  unfold pgj pgk
  rw [dsum_take hk, List.take_succ_eq_append_getElem hk, hd, back_snoc, szs_snoc]
  simp only [dz, sz, dat, List.take_length, Nat.sub_self, List.replicate_zero, List.append_nil, List.append_assoc]
  rw [show 512 - 4 - 2 * k - dsum (l.take k) - d.length = 512 - 2 - 2 * (k + 1) - (dsum (l.take k) + d.length) by omega]
theorem pgj_length {l : List Sl} {k : Nat} (hk : k < l.length) {d : By} {j : Nat} (hj : j ≤ d.length) (h : 4 + 2 * k + dsum (l.take k) + d.length ≤ 512) : (pgj l k d j).length = 512 := by
  unfold pgj
  simp only [List.length_append, szs_length, List.length_replicate, back_length, w2, List.length_cons, List.length_nil, List.length_take]
  omega
theorem pgj_set {l : List Sl} {k : Nat} (hk : k < l.length) {d : By} {j : Nat} (hj : j < d.length) (h : 4 + 2 * k + dsum (l.take k) + d.length ≤ 512) : (pgj l k d j).set (512 - dsum (l.take k) - d.length + j) d[j] = pgj l k d (j + 1) := by
  unfold pgj
  have e1 : (w2 l.length ++ (szs (l.take k) ++ w2 (d.length + 1)) ++ List.replicate (512 - 4 - 2 * k - dsum (l.take k) - d.length) 0 ++ d.take j).length = 512 - dsum (l.take k) - d.length + j := by
    simp only [List.length_append, szs_length, List.length_replicate, w2, List.length_cons, List.length_nil, List.length_take]
    omega
  rw [show d.length - j = (d.length - (j + 1)) + 1 by omega, List.replicate_succ, List.append_assoc _ (0 :: _) _, List.cons_append, List.set_append_right _ _ (by omega), e1, Nat.sub_self, List.set_cons_zero, List.take_succ_eq_append_getElem hj]
  simp only [List.append_assoc, List.cons_append, List.nil_append]
theorem pgk_zero (l : List Sl) : wr (List.replicate 512 0) 0 l.length = pgk l 0 := by
  rw [show (512 : Nat) = 510 + 1 + 1 by rfl, List.replicate_succ, List.replicate_succ]
  unfold wr pgk w2
  simp [szs, back, dsum]
theorem quo_i {n : Nat} (h : n < 65536) : IntKind.u8.wrap (IntKind.i64.wrap ((n : Int).tdiv 256)) = ((hi n).toNat : Int) := by
  have e : (n : Int).tdiv 256 = ((n / 256 : Nat) : Int) := by
    rw [Int.tdiv_eq_ediv_of_nonneg (by omega)]; push_cast; rfl
  rw [e, wrap_id (by omega) (by omega)]
  unfold hi
  rw [UInt8.toNat_ofNat']
  simp [IntKind.wrap, IntKind.bits, IntKind.signed]
theorem rem_i (n : Nat) : IntKind.u8.wrap ((n : Int).tmod 256) = ((lo n).toNat : Int) := by
  have e : (n : Int).tmod 256 = ((n % 256 : Nat) : Int) := by
    rw [Int.tmod_eq_emod_of_nonneg (by omega)]; push_cast; rfl
  rw [e]
  unfold lo
  rw [UInt8.toNat_ofNat']
  simp [IntKind.wrap, IntKind.bits, IntKind.signed]
theorem bytes_is {l : List Sl} (hf : need l ≤ 512) (hz : ∀ s ∈ l, dz s ≤ 255) : Is Try.prog 20 [.c (eSls l)] (.c (.sl 1 (byl (pg l)))) := by
  have hll : ((l.map eSl).length : Int) = (l.length : Nat) := by rw [List.length_map]
  have hl : l.length ≤ 255 := by unfold need at hf; omega
  have hdl := dsum_take_le l
  unfold need at hf
  refine Is.of TP Try.func20 rfl rfl (Nat.le_of_ble_eq_true rfl) fun st => Pw.of TP [] ?_
  conv => whnf
  refine ⟨rfl, by decide, by decide, by decide, by decide, by decide, fun id h0 => ?_⟩
  conv => whnf
  have p0 : LiveP (upd st id (.ar 1 (List.replicate 512 [.v (.int .u8 0)]))) id (List.replicate 512 0) := by rw [byl_rep]; exact upd_same _ _ _
  refine ⟨by decide, ?_⟩
  conv => whnf
  (refine ⟨rfl, ?_⟩; conv => whnf)
  rw [hll, quo_i (by omega)]
  refine ixL p0 (i := 0) rfl (by decide) ?_
  conv => whnf
  refine stB p0 (i := 0) (b := hi l.length) rfl (by rw [List.length_replicate]; decide) rfl ?_
  conv => whnf
  refine ⟨by decide, ?_⟩
  conv => whnf
  (refine ⟨rfl, ?_⟩; conv => whnf)
  rw [hll, rem_i]
  have p1 : LiveP (upd (upd st id (.ar 1 (List.replicate 512 [.v (.int .u8 0)]))) id (.ar 1 (byl ((List.replicate 512 0).set 0 (hi l.length))))) id ((List.replicate 512 0).set 0 (hi l.length)) := upd_same _ _ _
  refine ixL p1 (i := 1) rfl (by decide) ?_
  conv => whnf
  refine stB p1 (i := 1) (b := lo l.length) rfl (by rw [List.length_set, List.length_replicate]; decide) rfl ?_
  conv => whnf
  refine Pw.gen fun S hS => ?_
  have hS0 : LiveP S id (pgk l 0) := by rw [← pgk_zero, hS]; exact upd_same _ _ _
  have hle : Le st S := by rw [hS]; exact (((Le.refl st).up2 h0).up2 h0).up2 h0
  clear hS p0 p1
  have hd0 : ∀ k, k ≤ l.length → 2 + 2 * k + dsum (l.take k) ≤ 512 := fun k hk => by have := hdl k; omega
  refine Pw.rngS (τ := Nat) 5 l.length (by unfold Big; omega) [0, 3] (fun i x => [(4, vI .i64 ((512 - dsum (l.take i) : Nat) : Int))]) (fun i x => upd S id (.ar 1 (byl (pgk l i)))) (fun i x => True) 0 rfl ⟨rfl, trivial⟩ (Le.upS hS0) trivial fun i x hix _ => Pw.of TP [] ?_
  conv => whnf
  refine ⟨fun h => ?_, fun h => ?_⟩ <;> conv => whnf
  · have hi' : i < l.length := by omega
    have hst := dsum_take hi'
    have hb1 := hd0 (i + 1) (by omega)
    have hnone := pgk_none (l := l) hi'
    have hj0 := fun d h => pgj_zero (l := l) hi' (d := d) h
    have hje := fun d h => pgj_end (l := l) hi' (d := d) h
    have hle2 := pgk_length (l := l) (k := i) hix (hd0 i hix)
    have key : ∀ F : List AC → Prop, F (eSl l[i]) → 0 ≤ (i : Int) ∧ (i : Int) < ((l.map eSl).length : Nat) ∧ ∃ r, (l.map eSl)[(i : Int).toNat]? = some r ∧ F r := fun F hF => ixm hi' hF
    refine key _ ?_
    generalize l[i] = q at hst hnone hje key
    rcases q with _ | d
    · conv => whnf
      refine ⟨hi', rfl, ⟨rfl, rfl, trivial⟩, 0, ⟨?_, trivial⟩, ?_, trivial⟩
      · rw [hst]; rfl
      · rw [hnone rfl (by omega)]; exact .refl _
    · simp only [dz] at hst
      have hdl2 : ((byl d).length : Int) = (d.length : Nat) := by rw [byl_length]
      conv => whnf
      refine key _ ?_
      conv => whnf
      have hfit : 4 + 2 * i + dsum (l.take i) + d.length ≤ 512 := by omega
      have hw42 : IntKind.i64.wrap (2 + IntKind.i64.wrap (2 * (i : Int))) = ((2 + 2 * i : Nat) : Int) := by
        rw [wrap_id (n := 2 * (i : Int)) (by omega) (by omega), wrap_id (by omega) (by omega)]; omega
      have hw51 : IntKind.i64.wrap (3 + IntKind.i64.wrap (2 * (i : Int))) = ((2 + 2 * i + 1 : Nat) : Int) := by
        rw [wrap_id (n := 2 * (i : Int)) (by omega) (by omega), wrap_id (by omega) (by omega)]; omega
      have hw44 : IntKind.i64.wrap (((byl d).length : Int) + 1) = ((d.length + 1 : Nat) : Int) := by rw [hdl2, wrap_id (by omega) (by omega)]; omega
      have hw65 : IntKind.i64.wrap (((512 - dsum (l.take i) : Nat) : Int) - ((byl d).length : Int)) = ((512 - dsum (l.take i) - d.length : Nat) : Int) := by rw [hdl2, wrap_id (by omega) (by omega)]; omega
      have pk : LiveP (upd S id (.ar 1 (byl (pgk l i)))) id (pgk l i) := upd_same _ _ _
      refine ⟨by decide, ?_⟩
      conv => whnf
      (refine ⟨rfl, ?_⟩; conv => whnf)
      rw [hw42, hw44, quo_i (by omega)]
      refine ixL pk (i := 2 + 2 * i) rfl (by omega) ?_
      conv => whnf
      refine stB pk (i := 2 + 2 * i) (b := hi (d.length + 1)) (by omega) (by omega) rfl ?_
      conv => whnf
      refine ⟨by decide, ?_⟩
      conv => whnf
      (refine ⟨rfl, ?_⟩; conv => whnf)
      rw [hw51, hw44, rem_i]
      have pk2 : LiveP (upd (upd S id (.ar 1 (byl (pgk l i)))) id (.ar 1 (byl ((pgk l i).set (2 + 2 * i) (hi (d.length + 1)))))) id ((pgk l i).set (2 + 2 * i) (hi (d.length + 1))) := upd_same _ _ _
      refine ixL pk2 (i := 2 + 2 * i + 1) rfl (by omega) ?_
      conv => whnf
      refine stB pk2 (i := 2 + 2 * i + 1) (b := lo (d.length + 1)) (by omega) (by rw [List.length_set]; omega) rfl ?_
      conv => whnf
      refine Pw.gen fun S2 hS2 => ?_
      have hS3 : S2 = upd S id (.ar 1 (byl (pgj l i d 0))) := by
        rw [hS2, upd_upd, upd_upd, ← hj0 d hfit]
        rfl
      clear hS2
      have hjl := fun j hj => pgj_length (l := l) (k := i) hi' (d := d) (j := j) hj hfit
      have hjs := fun j hj => pgj_set (l := l) (k := i) hi' (d := d) (j := j) hj hfit
      refine Pw.rngS (τ := Unit) 7 d.length (by unfold Big; omega) [0, 3, 4, 5, 6] (fun _ _ => []) (fun j _ => upd S id (.ar 1 (byl (pgj l i d j)))) (fun _ _ => True) () rfl trivial (by rw [hS3]; exact .refl _) trivial fun j _ hj _ => Pw.of TP [] ?_
      conv => whnf
      refine ⟨fun h => ?_, fun h => ?_⟩ <;> conv => whnf
      · have hj' : j < d.length := by omega
        have hw67 : IntKind.i64.wrap (((512 - dsum (l.take i) - d.length : Nat) : Int) + (j : Int)) = ((512 - dsum (l.take i) - d.length + j : Nat) : Int) := by rw [wrap_id (by omega) (by omega)]; omega
        have pj : LiveP (upd S id (.ar 1 (byl (pgj l i d j)))) id (pgj l i d j) := upd_same _ _ _
        have hjl2 := hjl j hj
        refine key _ ?_
        conv => whnf
        refine ixb rfl hj' ?_
        conv => whnf
        rw [hw65, hw67]
        refine ixL pj (i := 512 - dsum (l.take i) - d.length + j) rfl (by omega) ?_
        conv => whnf
        refine stB pj (i := 512 - dsum (l.take i) - d.length + j) (b := d[j]) (by omega) (by omega) rfl ?_
        conv => whnf
        rw [hjs j hj']
        exact ⟨hj', rfl, ⟨rfl, rfl, rfl, rfl, rfl, trivial⟩, (), trivial, Le.upU, trivial⟩
      · have hj' : j = d.length := by omega
        subst hj'
        rw [hw65]
        refine ⟨hi', rfl, ⟨rfl, rfl, trivial⟩, 0, ⟨?_, trivial⟩, ?_, trivial⟩
        · rw [hst, Nat.sub_add_eq]; rfl
        · rw [hje d rfl hfit]; exact .refl _
  · have hi' : i = l.length := by omega
    subst hi'
    rw [pgk_end]
    refine ⟨only id, st, _, FV.live (upd_same _ _ _) (pg_length (by unfold need; exact hf)).symm, fun i o hi => old_only (hle.up2 h0) h0 i o hi, rfl, rfl⟩
end Go.Proofs.Ytfkkajibaeppbaa.D
