/- Words and contracts: a plain machine over the model, and what the functions that a law reaches come to, each for every input that its theorem names. -/
import Derived.Test.YtfkkajibaeppbaaK2
namespace Go.Proofs.Ytfkkajibaeppbaa.D
set_option linter.unusedVariables false
set_option linter.unusedSimpArgs false
open Go Go.Proofs.Ytfkkajibaeppbaa.D.Pm
set_option maxRecDepth 4000
structure Act where
  op : Int
  slot : Int
  data : By
def eAct (a : Act) : List AC := [.v (.int .i64 a.op), .v (.int .i64 a.slot), .sl 1 (byl a.data)]
theorem long_is (a : Act) : Is Try.prog 11 [.g (eAct a)] (vB (decide (600 < a.data.length))) := by
  have hbl : ((byl a.data).length : Int) = (a.data.length : Nat) := by rw [byl_length]
  refine Is.of TP Try.func11 rfl rfl (Nat.le_of_ble_eq_true rfl) fun st => Pw.of TP [] ?_
  conv => whnf
  refine ⟨fun h => ?_, fun h => ?_⟩ <;> conv => whnf
  · refine Fin.old (congrArg vB ?_) (.refl _)
    exact (decide_eq_true (by omega)).symm
  · refine Fin.old (congrArg vB ?_) (.refl _)
    exact (decide_eq_false (by omega)).symm
/-- what an act makes of slots -/
def actL (l : List Sl) (a : Act) : List Sl :=
  if a.op = 0 then (if (putS l a.data).2.2 = 0 then (putS l a.data).1 else l)
  else if a.op = 1 then (if (setS l a.slot a.data).2 = 0 then (setS l a.slot a.data).1 else l)
  else if a.op = 2 then (if (dropS l a.slot).2 = 0 then (dropS l a.slot).1 else l)
  else l
theorem putS_ok {l : List Sl} (hO : Ok l) (d : By) (h : (putS l d).2.2 = 0) : Ok (putS l d).1 := by
  unfold putS at h ⊢
  by_cases h1 : 255 < d.length
  · rw [if_pos h1] at h; cases h
  rw [if_neg h1] at h ⊢
  by_cases h2 : 512 < need (putL l d)
  · rw [if_pos h2] at h; cases h
  rw [if_neg h2]
  exact ok_putL hO (by omega) (by omega)
theorem setS_ok {l : List Sl} (hO : Ok l) (slot : Int) (d : By) (h : (setS l slot d).2 = 0) : Ok (setS l slot d).1 := by
  unfold setS at h ⊢
  by_cases h1 : 255 < d.length
  · rw [if_pos h1] at h; cases h
  rw [if_neg h1] at h ⊢
  cases hg : getS l slot with
  | none => rw [hg] at h; cases h
  | some d0 =>
    rw [hg] at h
    dsimp only at h ⊢
    by_cases h2 : 512 < need (l.set slot.toNat (some d))
    · rw [if_pos h2] at h; cases h
    rw [if_neg h2]
    exact ok_set hO (by omega) (by omega)
theorem dropS_ok {l : List Sl} (hO : Ok l) (slot : Int) (h : (dropS l slot).2 = 0) : Ok (dropS l slot).1 := by
  unfold dropS at h ⊢
  cases hg : getS l slot with
  | none => rw [hg] at h; cases h
  | some d0 =>
    obtain ⟨k, rfl, hk, _⟩ := find_some hg
    have hk' : k < l.length := (List.getElem?_eq_some_iff.1 hk).1
    dsimp only
    rw [Int.toNat_natCast]
    refine ok_trim ?_ fun s hs => ?_
    · have := need_set hk' none
      have := hO.fit
      simp [dz] at *
      omega
    · rcases List.mem_or_eq_of_mem_set hs with h | h
      · exact hO.few s h
      · subst h; exact Nat.zero_le _
theorem actL_ok {l : List Sl} (hO : Ok l) (a : Act) : Ok (actL l a) := by
  unfold actL
  split
  · split
    · exact putS_ok hO _ (by assumption)
    · exact hO
  · split
    · split
      · exact setS_ok hO _ _ (by assumption)
      · exact hO
    · split
      · split
        · exact dropS_ok hO _ (by assumption)
        · exact hO
      · exact hO
def doneR (l : List Sl) : AV := .t [.c (pgC l), .c (eSls l), vB true]
theorem done_is {l : List Sl} (hO : Ok l) (a : Act) (ha : a.data.length ≤ 600) : Is Try.prog 21 [.c (pgC l), .c (eSls l), .g (eAct a)] (doneR (actL l a)) := by
  have hl := hO.len
  obtain ⟨op, slot, data⟩ := a
  dsimp only at ha
  have hput := put_is hO (d := data) (by omega)
  have hrput := rput_is (l := l) (by omega) hO.few data (by omega)
  have hset := set_is hO (d := data) (by omega) slot
  have hrset := rset_is (l := l) (by omega) hO.few data (by omega) slot
  have hdrop := drop_is hO slot
  have hrdrop := rdrop_is (l := l) (by omega) slot
  have hget := get_is hO slot
  have kput := putS_ok hO data
  have kset := setS_ok hO slot data
  have kdrop := dropS_ok hO slot
  have eact : actL l ⟨op, slot, data⟩ = if op = 0 then (if (putS l data).2.2 = 0 then (putS l data).1 else l)
    else if op = 1 then (if (setS l slot data).2 = 0 then (setS l slot data).1 else l)
    else if op = 2 then (if (dropS l slot).2 = 0 then (dropS l slot).1 else l)
    else l := rfl
  rw [eact]
  clear eact
  generalize putS l data = P at hput hrput kput
  generalize setS l slot data = T at hset hrset kset
  generalize dropS l slot = D at hdrop hrdrop kdrop
  obtain ⟨pl, pk, pe⟩ := P
  obtain ⟨tl, te⟩ := T
  obtain ⟨dl, de⟩ := D
  dsimp only at kput kset kdrop ⊢
  refine Is.of TP Try.func21 rfl rfl (Nat.le_of_ble_eq_true rfl) fun st => Pw.of TP [] ?_
  conv => whnf
  have hb1 : ∀ {L : List Sl}, Ok L → Is Try.prog 20 [.c (eSls L)] (.c (.sl 1 (byl (pg L)))) := fun h => bytes_is h.fit h.few
  have hs1 : ∀ {L : List Sl}, Ok L → Is Try.prog 19 [.c (.sl 1 (byl (pg L))), .c (.sl 1 (byl (pg L)))] (vB true) := fun {L} h => by
    have := same_is (pg L) (pg L) (by rw [pg_length h.fit]; decide)
    rwa [decide_eq_true rfl] at this
  refine ⟨fun h0 => ?_, fun h0 => ?_⟩ <;> conv => whnf
  · have h0 : op = 0 := h0
    rcases pe with _ | pe
    · skip
      refine hput.call ?_
      conv => whnf
      refine hrput.call ?_
      conv => whnf
      refine ⟨fun h => absurd rfl h, fun _ => ?_⟩
      conv => whnf
      refine ⟨fun h => absurd rfl h, fun _ => ?_⟩
      conv => whnf
      refine ⟨fun h => absurd rfl h, fun _ => ?_⟩
      conv => whnf
      refine ⟨fun h => absurd rfl h, fun _ => ?_⟩
      conv => whnf
      refine (hb1 (kput rfl)).call ?_
      conv => whnf
      refine (hs1 (kput rfl)).call ?_
      conv => whnf
      refine Fin.old (show doneR pl = _ from ?_) (.refl _)
      rw [if_pos h0, if_pos rfl]
    · skip
      refine hput.call ?_
      conv => whnf
      refine hrput.call ?_
      conv => whnf
      refine ⟨fun h => absurd rfl h, fun _ => ?_⟩
      conv => whnf
      refine ⟨fun h => absurd rfl h, fun _ => ?_⟩
      conv => whnf
      refine ⟨fun h => ?_, fun h => absurd h (by dsimp only; omega)⟩
      conv => whnf
      refine ⟨fun h => absurd h (by decide), fun _ => ?_⟩
      conv => whnf
      refine ⟨fun h => ?_, fun h => absurd h (by dsimp only; omega)⟩
      conv => whnf
      refine Fin.old (show doneR l = _ from ?_) (.refl _)
      rw [if_pos h0, if_neg (by omega)]
  have h0 : ¬ op = 0 := h0
  refine ⟨fun h1 => ?_, fun h1 => ?_⟩ <;> conv => whnf
  · have h1 : op = 1 := h1
    rcases te with _ | te
    · skip
      refine hset.call ?_
      conv => whnf
      refine hrset.call ?_
      conv => whnf
      refine ⟨fun h => absurd rfl h, fun _ => ?_⟩
      conv => whnf
      refine ⟨fun h => absurd rfl h, fun _ => ?_⟩
      conv => whnf
      refine ⟨fun h => absurd rfl h, fun _ => ?_⟩
      conv => whnf
      refine ⟨fun h => absurd rfl h, fun _ => ?_⟩
      conv => whnf
      refine (hb1 (kset rfl)).call ?_
      conv => whnf
      refine (hs1 (kset rfl)).call ?_
      conv => whnf
      refine Fin.old (show doneR tl = _ from ?_) (.refl _)
      rw [if_neg h0, if_pos h1, if_pos rfl]
    · skip
      refine hset.call ?_
      conv => whnf
      refine hrset.call ?_
      conv => whnf
      refine ⟨fun h => absurd rfl h, fun _ => ?_⟩
      conv => whnf
      refine ⟨fun h => absurd rfl h, fun _ => ?_⟩
      conv => whnf
      refine ⟨fun h => ?_, fun h => absurd h (by dsimp only; omega)⟩
      conv => whnf
      refine ⟨fun h => absurd h (by decide), fun _ => ?_⟩
      conv => whnf
      refine ⟨fun h => ?_, fun h => absurd h (by dsimp only; omega)⟩
      conv => whnf
      refine Fin.old (show doneR l = _ from ?_) (.refl _)
      rw [if_neg h0, if_pos h1, if_neg (by omega)]
  have h1 : ¬ op = 1 := h1
  refine ⟨fun h2 => ?_, fun h2 => ?_⟩ <;> conv => whnf
  · have h2 : op = 2 := h2
    rcases de with _ | de
    · skip
      refine hdrop.call ?_
      conv => whnf
      refine hrdrop.call ?_
      conv => whnf
      refine ⟨fun h => absurd rfl h, fun _ => ?_⟩
      conv => whnf
      refine ⟨fun h => absurd rfl h, fun _ => ?_⟩
      conv => whnf
      refine ⟨fun h => absurd rfl h, fun _ => ?_⟩
      conv => whnf
      refine ⟨fun h => absurd rfl h, fun _ => ?_⟩
      conv => whnf
      refine (hb1 (kdrop rfl)).call ?_
      conv => whnf
      refine (hs1 (kdrop rfl)).call ?_
      conv => whnf
      refine Fin.old (show doneR dl = _ from ?_) (.refl _)
      rw [if_neg h0, if_neg h1, if_pos h2, if_pos rfl]
    · skip
      refine hdrop.call ?_
      conv => whnf
      refine hrdrop.call ?_
      conv => whnf
      refine ⟨fun h => absurd rfl h, fun _ => ?_⟩
      conv => whnf
      refine ⟨fun h => absurd rfl h, fun _ => ?_⟩
      conv => whnf
      refine ⟨fun h => ?_, fun h => absurd h (by dsimp only; omega)⟩
      conv => whnf
      refine ⟨fun h => absurd h (by decide), fun _ => ?_⟩
      conv => whnf
      refine ⟨fun h => ?_, fun h => absurd h (by dsimp only; omega)⟩
      conv => whnf
      refine Fin.old (show doneR l = _ from ?_) (.refl _)
      rw [if_neg h0, if_neg h1, if_pos h2, if_neg (by omega)]
  have h2 : ¬ op = 2 := h2
  refine hget.call ?_
  have hll : ((l.map eSl).length : Int) = (l.length : Nat) := by rw [List.length_map]
  have hres : doneR l = doneR (if op = 0 then if pe = 0 then pl else l else if op = 1 then if te = 0 then tl else l else if op = 2 then if de = 0 then dl else l else l) := by rw [if_neg h0, if_neg h1, if_neg h2]
  rw [← hres]
  clear hres hput hrput hset hrset hdrop hrdrop kput kset kdrop hget
  cases hg : getS l slot with
  | some d =>
    obtain ⟨k, rfl, hk, _⟩ := find_some hg
    have hk' : k < l.length := (List.getElem?_eq_some_iff.1 hk).1
    have hd : l[k] = some d := (List.getElem?_eq_some_iff.1 hk).2
    have hdl : d.length ≤ 255 := by
      have := hO.few _ (List.getElem_mem hk')
      rw [hd] at this
      exact this
    have key : ∀ F : List AC → Prop, F (eSl (some d)) → 0 ≤ (k : Int) ∧ (k : Int) < ((l.map eSl).length : Nat) ∧ ∃ r, (l.map eSl)[(k : Int).toNat]? = some r ∧ F r := fun F hF => ixm hk' (by rw [hd]; exact hF)
    conv => whnf
    refine ⟨fun h => ?_, fun h => absurd h (by dsimp only; omega)⟩
    conv => whnf
    refine ⟨fun h => ?_, fun h => absurd h (by dsimp only; omega)⟩
    conv => whnf
    refine key _ ?_
    conv => whnf
    refine ⟨fun h => ?_, fun h => absurd rfl h⟩
    conv => whnf
    refine key _ ?_
    conv => whnf
    refine (same_is d d (by unfold Big; omega)).call ?_
    rw [decide_eq_true rfl]
    conv => whnf
    exact Fin.old rfl (.refl _)
  | none =>
    conv => whnf
    refine ⟨fun h => ?_, fun h => ?_⟩ <;> conv => whnf
    · refine ⟨fun h => ?_, fun h => ?_⟩ <;> conv => whnf
      · have hi : slot.toNat < l.length := by dsimp only at *; omega
        have e : slot = ((slot.toNat : Nat) : Int) := by dsimp only at *; omega
        rw [e] at hg ⊢
        generalize slot.toNat = k at hi hg
        have hn : l[k] = none := by
          unfold getS at hg
          rw [if_neg (by omega), Int.toNat_natCast, List.getElem?_eq_getElem hi] at hg
          exact hg
        refine ixm hi ?_
        rw [hn]
        conv => whnf
        refine ⟨fun h => absurd h (by decide), fun _ => ?_⟩
        conv => whnf
        refine ⟨fun h => ?_, fun h => absurd rfl h⟩
        conv => whnf
        refine ⟨fun h => ?_, fun h => absurd rfl h⟩
        conv => whnf
        exact Fin.old rfl (.refl _)
      · refine ⟨fun h => absurd h (by decide), fun _ => ?_⟩
        conv => whnf
        refine ⟨fun h => ?_, fun h => absurd rfl h⟩
        conv => whnf
        refine ⟨fun h => ?_, fun h => absurd rfl h⟩
        conv => whnf
        exact Fin.old rfl (.refl _)
    · refine ⟨fun h => absurd h (by decide), fun _ => ?_⟩
      conv => whnf
      refine ⟨fun h => ?_, fun h => absurd rfl h⟩
      conv => whnf
      refine ⟨fun h => ?_, fun h => absurd rfl h⟩
      conv => whnf
      exact Fin.old rfl (.refl _)
end Go.Proofs.Ytfkkajibaeppbaa.D
namespace Go.Proofs.Ytfkkajibaeppbaa.D
set_option linter.unusedVariables false
set_option linter.unusedSimpArgs false
open Go Go.Proofs.Ytfkkajibaeppbaa.D.Pm
set_option maxRecDepth 4000
def abc : By := [97, 98, 99]
theorem put_abc : putS [] abc = ([some abc], 0, 0) := by decide
theorem ok_abc : Ok [some abc] := by
  have := putS_ok ok_nil abc (by rw [put_abc])
  rwa [put_abc] at this
theorem pworks_is : Is Try.prog 12 [] (vB true) := by
  have c1 := put_is ok_nil (d := abc) (by decide)
  rw [put_abc] at c1
  have c2 := get_is ok_abc 0
  have e2 : getS [some abc] 0 = some abc := by decide
  rw [e2] at c2
  have c3 := room_top ok_nil
  have c4 := room_top ok_abc
  refine Is.of TP Try.func12 rfl rfl (Nat.le_of_ble_eq_true rfl) fun st => Pw.of TP [1000008] ?_
  conv => whnf
  refine new_is.call ?_
  conv => whnf
  intro id hid
  conv => whnf
  refine ⟨rfl, rfl, by decide, _, upd_same _ _ _, rfl, ?_⟩
  conv => whnf
  refine c1.call ?_
  conv => whnf
  refine c2.call ?_
  conv => whnf
  refine ⟨fun _ => ?_, fun h => absurd rfl h⟩
  conv => whnf
  refine ⟨fun _ => ?_, fun h => absurd rfl h⟩
  conv => whnf
  refine ⟨fun _ => ?_, fun h => absurd rfl h⟩
  conv => whnf
  refine ⟨rfl, ⟨⟨#[97, 98, 99]⟩, rfl, ?_⟩⟩
  conv => whnf
  refine ⟨fun _ => ?_, fun h => absurd rfl h⟩
  conv => whnf
  refine new_is.call ?_
  conv => whnf
  refine c3.call ?_
  conv => whnf
  refine ⟨fun _ => ?_, fun h => absurd rfl h⟩
  conv => whnf
  refine c4.call ?_
  conv => whnf
  refine ⟨fun _ => ?_, fun h => absurd rfl h⟩
  conv => whnf
  have hle : Le st (del (upd st id (.ar 1 [[.v (.int .u8 97)], [.v (.int .u8 98)], [.v (.int .u8 99)]])) id) := rows0 hid
  exact Fin.old rfl hle
theorem pagePlays_law0 (l : List Act) (hl : l.length ≤ maxLen) : Is Try.prog 5 [.c (.sl 3 (l.map eAct))] (vB true) := by
  have hll : ((l.map eAct).length : Int) = (l.length : Nat) := by rw [List.length_map]
  refine Is.of TP Try.func5 rfl rfl (Nat.le_of_ble_eq_true rfl) fun st => Pw.of TP [] ?_
  conv => whnf
  refine new_is.call ?_
  conv => whnf
  refine Does.args (as' := [.c (eSls [])]) rfl (fun j r r' h1 h2 => ?_) ?_
  · match j, h1, h2 with
    | 0, h1, h2 => cases h1; cases h2; exact FV.nil _ _ 2
    | j + 1, h1, h2 => simp at h1
  refine (bytes_is ok_nil.fit ok_nil.few).call ?_
  conv => whnf
  refine (same_is (pg []) (pg []) (by decide)).call ?_
  rw [decide_eq_true rfl]
  conv => whnf
  refine Pw.loop (σ := Nat × List Sl) (fun x => [(5, vI .i64 (x.1 : Int)), (3, .c (pgC x.2)), (4, .c (eSls x.2)), (0, .c (.sl 3 (l.map eAct)))]) (fun _ => st) (fun x => Ok x.2 ∧ x.1 ≤ l.length ∧ x.1 ≤ 60) (fun x => 60 - x.1) ⟨(0, []), ⟨fun _ => false, ⟨⟨_, rfl, .refl _⟩, ⟨_, rfl, .refl _⟩, ⟨_, rfl, FV.nil _ _ 2⟩, ⟨_, rfl, .refl _⟩, trivial⟩, fun id o h => ⟨h, rfl⟩⟩, ok_nil, Nat.zero_le _, Nat.zero_le _⟩ ?_
  rintro ⟨i, L⟩ ⟨hO, hi1, hi2⟩
  dsimp only at hO hi1 hi2 ⊢
  refine Pw.of TP [] ?_
  conv => whnf
  have hend : Does Try.prog 12 [] st (fun r s => Fin (fun r' s => r' = vB true ∧ s = st) r s) := pworks_is.call (Fin.old rfl (.refl _))
  refine ⟨fun h => ?_, fun h => ?_⟩ <;> conv => whnf
  · refine ⟨fun h60 => ?_, fun h60 => ?_⟩ <;> conv => whnf
    · have hi : i < l.length := by omega
      have h60x : i < 60 := by omega
      have key : ∀ F : List AC → Prop, F (eAct l[i]) → 0 ≤ (i : Int) ∧ (i : Int) < ((l.map eAct).length : Nat) ∧ ∃ r, (l.map eAct)[(i : Int).toNat]? = some r ∧ F r := fun F hF => ixm hi hF
      generalize l[i] = a at key
      refine key _ ?_
      conv => whnf
      refine (long_is a).callB fun b hb => ?_
      cases b <;> conv => whnf
      · have ha : a.data.length ≤ 600 := by have := of_decide_eq_false hb; omega
        refine key _ ?_
        conv => whnf
        refine (done_is hO a ha).call ?_
        have hO2 := actL_ok hO a
        generalize actL L a = M at hO2
        have hM := hO2.len
        have hf := hO2.fit
        conv => whnf
        refine (room_top hO2).call ?_
        conv => whnf
        refine (size_is M (by omega) (fun s hs => by have := hO2.few s hs; omega)).call ?_
        conv => whnf
        have hw : IntKind.i64.wrap (512 - ((need M : Nat) : Int)) = ((512 - need M : Nat) : Int) := by rw [wrap_id (by omega) (by omega)]; omega
        rw [hw]
        refine ⟨fun h => absurd rfl h, fun _ => ?_⟩
        conv => whnf
        refine (check_pg hO2).call ?_
        conv => whnf
        refine ⟨fun h => absurd rfl h, fun _ => ?_⟩
        conv => whnf
        refine (slots_is hO2).call ?_
        conv => whnf
        refine (rslots_is (l := M) (by omega)).call ?_
        conv => whnf
        refine (numbers_is (slotL 0 M) (slotL 0 M) (by have := slotL_le M 0; unfold Big; omega)).call ?_
        rw [decide_eq_true rfl]
        conv => whnf
        exact ⟨(i + 1, M), .mk ⟨congrArg (fun x => some (vI .i64 x)) (wrap_nat (n := 60) (by omega) (by decide)), rfl, rfl, rfl, trivial⟩ (.refl _), ⟨hO2, hi, h60x⟩, by dsimp only; omega⟩
      · refine hend.mono fun r s h => ?_
        conv => whnf
        exact h
    · refine hend.mono fun r s h => ?_
      conv => whnf
      exact h
  · refine hend.mono fun r s h => ?_
    conv => whnf
    exact h
end Go.Proofs.Ytfkkajibaeppbaa.D
namespace Go.Proofs.Ytfkkajibaeppbaa.D
set_option linter.unusedVariables false
set_option linter.unusedSimpArgs false
open Go Go.Proofs.Ytfkkajibaeppbaa.D.Pm
set_option maxRecDepth 4000
def I64 (n : Int) : Prop := (Lit.int .i64 n).wf = true
theorem Pm.Rd.map {P : Program} {t : TypeId} {m : Nat} {α β : Type} {f : α → List AC} {ok : α → Prop} {f' : β → List AC} {ok' : β → Prop} (h : Rd P t f ok m) (u : α → β) (hu : ∀ a, ok a → f' (u a) = f a ∧ ok' (u a)) : Rd P t f' ok' m := fun H enc w base spare held fuel cs x hm hx => by
  obtain ⟨a, h1, h2⟩ := h H enc w base spare held fuel cs x hm hx
  exact ⟨u a, (hu a h1).2, by rw [(hu a h1).1]; exact h2⟩
theorem u8_of {n : Int} (h : (Lit.int .u8 n).wf = true) : ((UInt8.ofNat n.toNat).toNat : Int) = n := by
  simp [Lit.wf, IntKind.min, IntKind.max, IntKind.bits, IntKind.signed] at h
  rw [UInt8.toNat_ofNat']
  omega
theorem rdU8 (m : Nat) : Rd Try.prog 5 (fun b : UInt8 => [AC.v (.int .u8 (b.toNat : Int))]) (fun _ => True) m :=
  (Rd.int Try.underlying5).map (fun n => UInt8.ofNat n.toNat) fun n h => ⟨by rw [u8_of h], trivial⟩
theorem rdBy (m : Nat) : Rd Try.prog 23 (fun d : By => [.sl 1 (byl d)]) (fun d => d.length ≤ maxLen) m :=
  (Rd.sl (sz := 1) (by decide) Try.underlying23 (by kernel_rfl) (rdU8 m)).mono fun d h => h.1
def wfAct (a : Act) : Prop := I64 a.op ∧ I64 a.slot ∧ a.data.length ≤ maxLen
theorem rdAct (m : Nat) : Rd Try.prog 27 eAct wfAct m :=
  (Rd.st (fun a : Int × Int × By => (⟨a.1, a.2.1, a.2.2⟩ : Act)) (by exact fun a => ⟨rfl, fun h => h⟩) Try.underlying27 (by kernel_rfl)
    (RdF.cons (s1 := 1) rfl (by kernel_rfl) (Rd.int Try.underlying3) (RdF.cons (s1 := 1) rfl (by kernel_rfl) (Rd.int Try.underlying3) (RdF.last (sz := 1) rfl (by kernel_rfl) (rdBy m))))).less
def wfActs (l : List Act) : Prop := l.length ≤ maxLen ∧ ∀ a ∈ l, wfAct a
theorem rdActs (m : Nat) : Rd Try.prog 22 (fun l => [.sl 3 (l.map eAct)]) wfActs m := Rd.sl (sz := 3) (by decide) Try.underlying22 (by kernel_rfl) (rdAct m)
theorem pagePlays_law (l : List Act) (h : wfActs l) : Is Try.prog 5 [.c (.sl 3 (l.map eAct))] (vB true) := pagePlays_law0 l h.1
end Go.Proofs.Ytfkkajibaeppbaa.D
namespace Go.Proofs.Ytfkkajibaeppbaa.D
set_option linter.unusedVariables false
set_option linter.unusedSimpArgs false
open Go Go.Proofs.Ytfkkajibaeppbaa.D.Pm
set_option maxRecDepth 4000
theorem slotL_full : ∀ {l : List Sl} {i : Nat}, firstE l = l.length → ∀ k (hk : k < (slotL i l).length), (slotL i l)[k] = i + k
  | [], i, h, k, hk => by simp [slotL] at hk
  | none :: l, i, h, k, hk => by simp [firstE] at h
  | some d :: l, i, h, 0, hk => by simp [slotL]
  | some d :: l, i, h, k + 1, hk => by
    have := slotL_full (l := l) (i := i + 1) (by simpa [firstE] using h) k (by simpa [slotL] using hk)
    simp only [slotL, List.getElem_cons_succ, this]
    omega
theorem slotL_ge : ∀ {l : List Sl} {i : Nat}, ∀ n ∈ slotL i l, i ≤ n
  | [], i, n, h => by simp [slotL] at h
  | none :: l, i, n, h => by have := slotL_ge (l := l) (i := i + 1) n h; omega
  | some d :: l, i, n, h => by
    rcases List.mem_cons.1 h with h | h
    · omega
    · have := slotL_ge (l := l) (i := i + 1) n h; omega
theorem slotL_ne : ∀ {l : List Sl} {i : Nat}, l ≠ [] → (∀ a, l.getLast? = some a → a ≠ none) → slotL i l ≠ []
  | [none], i, _, h => absurd rfl (h none rfl)
  | [some d], i, _, h => by simp [slotL]
  | none :: b :: l, i, _, h => by
    have := slotL_ne (l := b :: l) (i := i + 1) (by simp) (fun a ha => h a (by simpa using ha))
    exact this
  | some d :: b :: l, i, _, h => by simp [slotL]
theorem slotL_gap : ∀ {l : List Sl} {i : Nat}, firstE l < l.length → (∀ a, l.getLast? = some a → a ≠ none) → ∃ k, ∃ hk : k < (slotL i l).length, (slotL i l)[k] ≠ i + k
  | [], i, h, _ => by simp at h
  | none :: l, i, h, hl => by
    have hne : l ≠ [] := fun e => by subst e; exact hl none rfl rfl
    have h1 := slotL_ne (l := l) (i := i + 1) hne (fun a ha => hl a (by cases l with | nil => exact absurd rfl hne | cons b l => simpa using ha))
    have h2 : 0 < (slotL (i + 1) l).length := List.length_pos_iff.2 h1
    refine ⟨0, h2, ?_⟩
    have := slotL_ge (l := l) (i := i + 1) _ (List.getElem_mem h2)
    show (slotL (i + 1) l)[0] ≠ i + 0
    omega
  | some d :: l, i, h, hl => by
    have h' : firstE l < l.length := by simpa [firstE] using h
    have hne : l ≠ [] := fun e => by subst e; simp at h'
    obtain ⟨k, hk, h2⟩ := slotL_gap (l := l) (i := i + 1) h' (fun a ha => hl a (by cases l with | nil => exact absurd rfl hne | cons b l => simpa using ha))
    refine ⟨k + 1, by simpa [slotL] using hk, ?_⟩
    simp only [slotL, List.getElem_cons_succ]
    omega
/-- what an act makes of slots here -/
def rmL (l : List Sl) (a : Act) : List Sl :=
  if a.op = 0 then (if (putS l a.data).2.2 = 0 then (putS l a.data).1 else l)
  else if a.op = 2 then (if (dropS l a.slot).2 = 0 then (dropS l a.slot).1 else l)
  else l
theorem rmL_ok {l : List Sl} (hO : Ok l) (a : Act) : Ok (rmL l a) := by
  unfold rmL
  split
  · split
    · exact putS_ok hO _ (by assumption)
    · exact hO
  · split
    · split
      · exact dropS_ok hO _ (by assumption)
      · exact hO
    · exact hO
theorem pageRoom_law0 (l : List Act) (d : By) (hw : wfActs l) (hd : d.length ≤ maxLen) : Is Try.prog 3 [.c (.sl 3 (l.map eAct)), .c (.sl 1 (byl d))] (vB true) := by
  have hll : ((l.map eAct).length : Int) = (l.length : Nat) := by rw [List.length_map]
  have hbl : ((byl d).length : Int) = (d.length : Nat) := by rw [byl_length]
  refine Is.of TP Try.func3 rfl rfl (Nat.le_of_ble_eq_true rfl) fun st => Pw.of TP [15] ?_
  conv => whnf
  refine new_is.call ?_
  conv => whnf
  have hend : Does Try.prog 12 [] st (fun r s => Fin (fun r' s => r' = vB true ∧ s = st) r s) := pworks_is.call (Fin.old rfl (.refl _))
  refine Pw.loop (σ := Nat × List Sl) (fun x => [(6, vI .i64 (x.1 : Int)), (5, .c (pgC x.2)), (0, .c (.sl 3 (l.map eAct))), (1, .c (.sl 1 (byl d)))]) (fun _ => st) (fun x => Ok x.2 ∧ x.1 ≤ l.length ∧ x.1 ≤ 60) (fun x => 60 - x.1) ⟨(0, []), .mk ⟨rfl, rfl, rfl, rfl, trivial⟩ (.refl _), ok_nil, Nat.zero_le _, Nat.zero_le _⟩ ?_
  rintro ⟨i, L⟩ ⟨hO, hi1, hi2⟩
  dsimp only at hO hi1 hi2 ⊢
  refine Pw.of TP [] ?_
  conv => whnf
  refine ⟨fun h => ?_, fun h => ?_⟩ <;> conv => whnf
  case' refine_1 =>
    refine ⟨fun h60 => ?_, fun h60 => ?_⟩ <;> conv => whnf
  case' refine_1.refine_1 =>
    have hi : i < l.length := by omega
    have h60x : i < 60 := by omega
    have key : ∀ F : List AC → Prop, F (eAct l[i]) → 0 ≤ (i : Int) ∧ (i : Int) < ((l.map eAct).length : Nat) ∧ ∃ r, (l.map eAct)[(i : Int).toNat]? = some r ∧ F r := fun F hF => ixm hi hF
    generalize l[i] = a at key
    refine key _ ?_
    conv => whnf
    refine (long_is a).callB fun b hb => ?_
    rcases b with _ | _
    rotate_left
    · conv => whnf
      refine hend.mono fun r s h => ?_
      conv => whnf
      exact h
    conv => whnf
    have ha : a.data.length ≤ 600 := by have := of_decide_eq_false hb; omega
    have hnext : ∀ M, M = rmL L a → Ok M := fun M e => e ▸ rmL_ok hO a
    have hgo : ∀ M : List Sl, Ok M → ∀ env : Env, EVe env [(6, vI .i64 (IntKind.i64.wrap ((i : Int) + 1))), (5, .c (pgC M)), (0, .c (.sl 3 (l.map eAct))), (1, .c (.sl 1 (byl d)))] → ∃ y : Nat × List Sl, Vw env st [(6, vI .i64 (y.1 : Int)), (5, .c (pgC y.2)), (0, .c (.sl 3 (l.map eAct))), (1, .c (.sl 1 (byl d)))] st ∧ (Ok y.2 ∧ y.1 ≤ l.length ∧ y.1 ≤ 60) ∧ 60 - y.1 < 60 - i := fun M hM env he => by
      rw [wrap_nat (n := 60) (by omega) (by decide)] at he
      exact ⟨(i + 1, M), .mk he (.refl _), ⟨hM, hi, h60x⟩, by dsimp only; omega⟩
    refine key _ ?_
    conv => whnf
    have eact : rmL L a = if a.op = 0 then (if (putS L a.data).2.2 = 0 then (putS L a.data).1 else L) else if a.op = 2 then (if (dropS L a.slot).2 = 0 then (dropS L a.slot).1 else L) else L := rfl
    have hput := put_is hO (d := a.data) (by omega)
    have hdrop := drop_is hO a.slot
    have kput := putS_ok hO a.data
    have kdrop := dropS_ok hO a.slot
    have kpg : ∀ {M : List Sl}, Ok M → 0 < ((byl (pg M)).length : Int) := fun h => by rw [byl_length, pg_length h.fit]; decide
    refine ⟨fun h0 => ?_, fun h0 => ?_⟩ <;> conv => whnf
    · refine key _ ?_
      conv => whnf
      refine hput.call ?_
      generalize putS L a.data = P at kput
      obtain ⟨pl, pk, pe⟩ := P
      rcases pe with _ | pe
      · conv => whnf
        refine ⟨fun _ => ?_, fun h => absurd (kpg (kput rfl)) h⟩
        conv => whnf
        exact hgo pl (kput rfl) _ ⟨rfl, rfl, rfl, rfl, trivial⟩
      · conv => whnf
        refine ⟨fun h => absurd h (by decide), fun _ => ?_⟩
        conv => whnf
        exact hgo L hO _ ⟨rfl, rfl, rfl, rfl, trivial⟩
    refine ⟨fun h2 => ?_, fun h2 => ?_⟩ <;> conv => whnf
    · refine key _ ?_
      conv => whnf
      refine hdrop.call ?_
      generalize dropS L a.slot = D at kdrop
      obtain ⟨dl, de⟩ := D
      rcases de with _ | de
      · conv => whnf
        refine ⟨fun _ => ?_, fun h => absurd (kpg (kdrop rfl)) h⟩
        conv => whnf
        exact hgo dl (kdrop rfl) _ ⟨rfl, rfl, rfl, rfl, trivial⟩
      · conv => whnf
        refine ⟨fun h => absurd h (by decide), fun _ => ?_⟩
        conv => whnf
        exact hgo L hO _ ⟨rfl, rfl, rfl, rfl, trivial⟩
    · refine ⟨fun h => absurd h (by decide), fun _ => ?_⟩
      conv => whnf
      exact hgo L hO _ ⟨rfl, rfl, rfl, rfl, trivial⟩
  all_goals
    refine Pw.vw (env' := [(5, .c (pgC L)), (1, .c (.sl 1 (byl d)))]) (st' := st) ?_ (Pw.of TP [24] ?_)
    · exact .mk ⟨rfl, rfl, trivial⟩ (.refl _)
    conv => whnf
    rw [hbl]
    refine ⟨fun hlong => ?_, fun hlong => ?_⟩ <;> conv => whnf
    · have hput := put_is hO (d := d) (by unfold maxLen at hd; omega)
      have e3 : putS L d = ([], 0, 3) := by unfold putS; rw [if_pos (by omega)]
      rw [e3] at hput
      refine hput.call ?_
      conv => whnf
      refine ⟨fun _ => ?_, fun h => absurd rfl h⟩
      conv => whnf
      refine pworks_is.call ?_
      conv => whnf
      exact Fin.old rfl (.refl _)
    have hds : d.length ≤ 255 := by omega
    refine (slots_is hO).call ?_
    have hsl := slotL_le L 0
    have hLl := hO.len
    have hfl : firstE L = L.length → ∀ k (hk : k < (slotL 0 L).length), (slotL 0 L)[k] = 0 + k := fun e => slotL_full e
    have hgp : firstE L < L.length → ∃ k, ∃ hk : k < (slotL 0 L).length, (slotL 0 L)[k] ≠ 0 + k := fun e => slotL_gap e hO.last
    have hfe := firstE_le L
    generalize slotL 0 L = V at hsl hfl hgp
    have hvl : ((nums V).length : Int) = (V.length : Nat) := by simp [nums]
    conv => whnf
    refine Pw.rng (τ := Bool) 13 V.length (by unfold Big; omega) [1, 5, 11] (fun b => [(12, vB b)]) (fun i b => b = true ↔ ∃ k, ∃ hk : k < V.length, k < i ∧ V[k] ≠ k) false rfl ⟨rfl, trivial⟩ ⟨fun h => (by cases h), fun ⟨k, _, h, _⟩ => absurd h (Nat.not_lt_zero k)⟩ fun j b hj hb => Pw.of TP [24] ?_
    conv => whnf
    refine ⟨fun h => ?_, fun h => ?_⟩ <;> conv => whnf
    · have hj' : j < V.length := by omega
      have hstep : ∀ b' : Bool, (b' = true ↔ (b = true ∨ V[j] ≠ j)) → (b' = true ↔ ∃ k, ∃ hk : k < V.length, k < j + 1 ∧ V[k] ≠ k) := fun b' e => by
        rw [e, hb]
        constructor
        · rintro (⟨k, h1, h2, h3⟩ | h)
          · exact ⟨k, h1, by omega, h3⟩
          · exact ⟨j, hj', by omega, h⟩
        · rintro ⟨k, h1, h2, h3⟩
          by_cases e : k = j
          · subst e; exact .inr h3
          · exact .inl ⟨k, h1, by omega, h3⟩
      cases b <;> conv => whnf
      · refine ixm (l := V) (f := fun n : Nat => [AC.v (.int .i64 (n : Int))]) hj' ?_
        conv => whnf
        refine ⟨fun h => ?_, fun h => ?_⟩ <;> conv => whnf
        · exact ⟨hj', rfl, ⟨rfl, rfl, rfl, trivial⟩, true, ⟨rfl, trivial⟩, .refl _, hstep true ⟨fun _ => .inr (by omega), fun _ => rfl⟩⟩
        · exact ⟨hj', rfl, ⟨rfl, rfl, rfl, trivial⟩, false, ⟨rfl, trivial⟩, .refl _, hstep false ⟨fun h => (by cases h), fun h9 => by rcases h9 with h9 | h9; cases h9; omega⟩⟩
      · exact ⟨hj', rfl, ⟨rfl, rfl, rfl, trivial⟩, true, ⟨rfl, trivial⟩, .refl _, hstep true ⟨fun _ => .inl rfl, fun _ => rfl⟩⟩
    have hjl : j = V.length := by omega
    subst hjl
    have hgap : b = true ↔ firstE L < L.length := by
      rw [hb]
      constructor
      · rintro ⟨k, h1, h2, h3⟩
        by_cases e : firstE L = L.length
        · have := hfl e k h1; omega
        · omega
      · intro e
        obtain ⟨k, h1, h2⟩ := hgp e
        exact ⟨k, h1, h1, by omega⟩
    clear hb hfl hgp
    have hnd := need_putL L d
    have hput := put_is hO (d := d) (by omega)
    have kput := fun h => ok_putL (l := L) hO (d := d) hds h
    have eput : putS L d = if 512 < need (putL L d) then ([], 0, 5) else (putL L d, firstE L, 0) := by unfold putS; rw [if_neg (by omega)]
    rw [eput] at hput
    have hf := hO.fit
    cases b
    · have hfe2 : firstE L = L.length := by
        have := fun h => hgap.2 h
        by_cases e : firstE L < L.length
        · exact absurd (this e) (by decide)
        · omega
      rw [if_pos hfe2] at hnd
      have hw14 : IntKind.i64.wrap (((byl d).length : Int) + 2) = ((d.length + 2 : Nat) : Int) := by rw [hbl, wrap_id (by omega) (by omega)]; omega
      refine Pw.of TP [] ?_
      conv => whnf
      refine hput.call ?_
      by_cases hbad : 512 < need (putL L d)
      · rw [if_pos hbad]
        conv => whnf
        refine (room_top hO).call ?_
        conv => whnf
        rw [hw14]
        refine ⟨fun _ => ?_, fun h => absurd (show ((512 - need L : Nat) : Int) < ((d.length + 2 : Nat) : Int) by omega) h⟩
        conv => whnf
        refine ⟨fun _ => ?_, fun h => absurd rfl h⟩
        conv => whnf
        refine pworks_is.call ?_
        conv => whnf
        exact Fin.old rfl (.refl _)
      · rw [if_neg hbad]
        have hO2 := kput (by omega)
        conv => whnf
        refine (room_top hO).call ?_
        conv => whnf
        rw [hw14]
        refine ⟨fun h => absurd h (by omega), fun _ => ?_⟩
        conv => whnf
        refine ⟨fun _ => ?_, fun h => absurd rfl h⟩
        conv => whnf
        refine (room_top hO2).call ?_
        conv => whnf
        refine (room_top hO).call ?_
        conv => whnf
        have hw15 : IntKind.i64.wrap (((512 - need L : Nat) : Int) - ((d.length + 2 : Nat) : Int)) = ((512 - need (putL L d) : Nat) : Int) := by rw [wrap_id (by omega) (by omega)]; omega
        rw [hw15]
        refine ⟨fun _ => ?_, fun h => absurd rfl h⟩
        conv => whnf
        refine pworks_is.call ?_
        conv => whnf
        exact Fin.old rfl (.refl _)
    · have hfe2 : ¬ firstE L = L.length := by have := hgap.1 rfl; omega
      rw [if_neg hfe2] at hnd
      refine Pw.of TP [] ?_
      conv => whnf
      refine hput.call ?_
      by_cases hbad : 512 < need (putL L d)
      · rw [if_pos hbad]
        conv => whnf
        refine (room_top hO).call ?_
        conv => whnf
        refine ⟨fun _ => ?_, fun h => absurd (show ((512 - need L : Nat) : Int) < ((byl d).length : Int) by omega) h⟩
        conv => whnf
        refine ⟨fun _ => ?_, fun h => absurd rfl h⟩
        conv => whnf
        refine pworks_is.call ?_
        conv => whnf
        exact Fin.old rfl (.refl _)
      · rw [if_neg hbad]
        have hO2 := kput (by omega)
        conv => whnf
        refine (room_top hO).call ?_
        conv => whnf
        refine ⟨fun h => absurd h (by omega), fun _ => ?_⟩
        conv => whnf
        refine ⟨fun _ => ?_, fun h => absurd rfl h⟩
        conv => whnf
        refine (room_top hO2).call ?_
        conv => whnf
        refine (room_top hO).call ?_
        conv => whnf
        have hw15 : IntKind.i64.wrap (((512 - need L : Nat) : Int) - ((byl d).length : Int)) = ((512 - need (putL L d) : Nat) : Int) := by rw [hbl, wrap_id (by omega) (by omega)]; omega
        rw [hw15]
        refine ⟨fun _ => ?_, fun h => absurd rfl h⟩
        conv => whnf
        refine pworks_is.call ?_
        conv => whnf
        exact Fin.old rfl (.refl _)
def wfBy (d : By) : Prop := d.length ≤ maxLen
theorem pageRoom_law (l : List Act) (d : By) (hw : wfActs l) (hd : wfBy d) : Is Try.prog 3 [.c (.sl 3 (l.map eAct)), .c (.sl 1 (byl d))] (vB true) := pageRoom_law0 l d hw hd
end Go.Proofs.Ytfkkajibaeppbaa.D
namespace Go.Proofs.Ytfkkajibaeppbaa.D
set_option linter.unusedVariables false
set_option linter.unusedSimpArgs false
open Go Go.Proofs.Ytfkkajibaeppbaa.D.Pm
set_option maxRecDepth 4000
def gs (l : List Sl) (k : Nat) : Option By := (l[k]?).join
theorem getS_gs (l : List Sl) (k : Nat) : getS l (k : Int) = gs l k := by
  unfold getS gs
  rw [if_neg (by omega), Int.toNat_natCast]
theorem gs_set {l : List Sl} {k : Nat} (hk : k < l.length) (s : Sl) (j : Nat) : gs (l.set k s) j = if j = k then s else gs l j := by
  unfold gs
  rw [List.getElem?_set]
  by_cases h : k = j
  · subst h
    rw [if_pos rfl, if_pos hk, if_pos rfl]
    rfl
  · rw [if_neg h, if_neg (fun e => h e.symm)]
theorem gs_first (l : List Sl) : gs l (firstE l) = none := by
  unfold gs
  by_cases h : firstE l < l.length
  · rw [List.getElem?_eq_getElem h, firstE_none h]; rfl
  · rw [List.getElem?_eq_none (by omega)]; rfl
theorem gs_put (l : List Sl) (d : By) (j : Nat) : gs (putL l d) j = if j = firstE l then some d else gs l j := by
  unfold putL
  by_cases h : firstE l = l.length
  · rw [if_pos h, h]
    unfold gs
    by_cases hj : j < l.length
    · rw [List.getElem?_append_left hj, if_neg (by omega)]
    · rw [List.getElem?_append_right (by omega)]
      by_cases e : j = l.length
      · subst e; simp
      · rw [if_neg e, List.getElem?_eq_none (by simp; omega), List.getElem?_eq_none (by omega)]
  · rw [if_neg h]
    exact gs_set (by have := firstE_le l; omega) (some d) j
theorem gs_trim (l : List Sl) (j : Nat) : gs (trimL l) j = gs l j := by
  unfold gs trimL
  rw [List.getElem?_take]
  split
  · rfl
  · rename_i h
    by_cases hj : j < l.length
    · rw [List.getElem?_eq_getElem hj, trimN_none hj (by omega)]; rfl
    · rw [List.getElem?_eq_none (by omega)]
theorem gs_lt {l : List Sl} {k : Nat} {d : By} (h : gs l k = some d) : k < l.length := by
  unfold gs at h
  by_cases hk : k < l.length
  · exact hk
  · rw [List.getElem?_eq_none (by omega)] at h; cases h
def cel (c : AC) : List AC := [c]
def bol (b : Bool) : List AC := [.v (.bool b)]
structure Held (L : List Sl) (H : List AC) (B : List Bool) : Prop where
  hl : H.length = 256
  bl : B.length = 256
  is : ∀ k, k < 256 → B[k]? = some (gs L k).isSome
  at_ : ∀ k d, gs L k = some d → H[k]? = some (.sl 1 (byl d))
theorem Held.upd {L M : List Sl} {H : List AC} {B : List Bool} (h : Held L H B) {k : Nat} (hk : k < 256) {s : Sl} (hM : ∀ j, gs M j = if j = k then s else gs L j) {c : AC} (hc : ∀ d, s = some d → c = .sl 1 (byl d)) : Held M (H.set k c) (B.set k s.isSome) := by
  refine ⟨by rw [List.length_set, h.hl], by rw [List.length_set, h.bl], fun j hj => ?_, fun j d hd => ?_⟩
  · rw [List.getElem?_set, hM]
    by_cases e : k = j
    · subst e; rw [if_pos rfl, if_pos (by rw [h.bl]; exact hk), if_pos rfl]
    · rw [if_neg e, if_neg (fun x => e x.symm)]; exact h.is j hj
  · rw [hM] at hd
    rw [List.getElem?_set]
    by_cases e : k = j
    · subst e
      rw [if_pos rfl] at hd
      rw [if_pos rfl, if_pos (by rw [h.hl]; exact hk), hc d hd]
    · rw [if_neg (fun x => e x.symm)] at hd
      rw [if_neg e]
      exact h.at_ j d hd
theorem held0 : Held [] (List.replicate 256 (.v (.slice none 0 0))) (List.replicate 256 false) :=
  ⟨by simp, by simp, fun k hk => by rw [List.getElem?_replicate, if_pos hk]; rfl, fun k d h => by cases h⟩
def bx2 (st : Sto) (i j : Nat) (H : List AC) (B : List Bool) : Sto := Pm.upd (Pm.upd st i (.ar 1 (H.map cel))) j (.ar 1 (B.map bol))
theorem bx2_i {st : Sto} {i j : Nat} (h : i ≠ j) {H : List AC} {B : List Bool} : bx2 st i j H B i = some (.ar 1 (H.map cel)) := by
  unfold bx2; rw [upd_ne _ h, upd_same]
theorem bx2_j {st : Sto} {i j : Nat} {H : List AC} {B : List Bool} : bx2 st i j H B j = some (.ar 1 (B.map bol)) := upd_same _ _ _
theorem ldB {st : Sto} {id : Nat} {B : List Bool} {k q : Nat} {F : List AC → Prop} {b : Bool} (h : st id = some (.ar 1 (B.map bol))) (hq : q = k) (hb : B[k]? = some b) (hF : F (bol b)) : ∃ z rows r, st id = some (.ar z rows) ∧ rows[q]? = some r ∧ F (r.drop 0) := by
  subst hq
  exact ⟨1, _, bol b, h, by rw [List.getElem?_map, hb]; rfl, hF⟩
theorem ldH {st : Sto} {id : Nat} {H : List AC} {k q : Nat} {F : List AC → Prop} {c : AC} (h : st id = some (.ar 1 (H.map cel))) (hq : q = k) (hb : H[k]? = some c) (hF : F (cel c)) : ∃ z rows r, st id = some (.ar z rows) ∧ rows[q]? = some r ∧ F (r.drop 0) := by
  subst hq
  exact ⟨1, _, cel c, h, by rw [List.getElem?_map, hb]; rfl, hF⟩
theorem ixR {st : Sto} {id : Nat} {rows : List (List AC)} {k len : Nat} {n : Int} {F : Prop} (h : st id = some (.ar 1 rows)) (hn : n = k) (hk : k < len) (hF : F) : 0 ≤ n ∧ n < (len : Int) ∧ (∃ rows, st id = some (.ar 1 rows)) ∧ F := by
  subst hn
  exact ⟨by omega, by omega, ⟨_, h⟩, hF⟩
end Go.Proofs.Ytfkkajibaeppbaa.D
namespace Go.Proofs.Ytfkkajibaeppbaa.D
set_option linter.unusedVariables false
set_option linter.unusedSimpArgs false
open Go Go.Proofs.Ytfkkajibaeppbaa.D.Pm
set_option maxRecDepth 4000
theorem mapAt {α β : Type} {B : List α} {f : α → β} {k q : Nat} {b : α} (hq : q = k) (hb : B[k]? = some b) : (B.map f)[q]? = some (f b) := by
  subst hq
  rw [List.getElem?_map, hb]
  rfl
theorem stH {st : Sto} {id4 id5 : Nat} {H : List AC} {B : List Bool} {k q : Nat} {c : AC} {F : Sto → Prop} (h : id4 ≠ id5) (hk : k < H.length) (hq : q = k) (K : F (bx2 st id4 id5 (H.set k c) B)) :
    ∃ sz rows r, bx2 st id4 id5 H B id4 = some (.ar sz rows) ∧ rows[q]? = some r ∧ 0 + 1 ≤ r.length ∧ F (upd (bx2 st id4 id5 H B) id4 (.ar sz (rows.set q (putAt r 0 [c])))) := by
  subst hq
  refine ⟨1, _, cel H[q], bx2_i h, mapAt rfl (List.getElem?_eq_getElem hk), Nat.le_refl 1, ?_⟩
  have e : upd (bx2 st id4 id5 H B) id4 (.ar 1 ((H.map cel).set q (putAt (cel H[q]) 0 [c]))) = bx2 st id4 id5 (H.set q c) B := by
    have e2 : putAt (cel H[q]) 0 [c] = cel c := rfl
    rw [e2]
    unfold bx2
    rw [List.map_set]
    funext i
    unfold upd
    by_cases e4 : i = id4
    · rw [if_pos e4, if_neg (fun e5 => h (e4.symm.trans e5)), if_pos e4]
    · rw [if_neg e4, if_neg e4, if_neg e4]
  rw [e]
  exact K
theorem stBl {st : Sto} {id4 id5 : Nat} {H : List AC} {B : List Bool} {k q : Nat} {b : Bool} {F : Sto → Prop} (hk : k < B.length) (hq : q = k) (K : F (bx2 st id4 id5 H (B.set k b))) :
    ∃ sz rows r, bx2 st id4 id5 H B id5 = some (.ar sz rows) ∧ rows[q]? = some r ∧ 0 + 1 ≤ r.length ∧ F (upd (bx2 st id4 id5 H B) id5 (.ar sz (rows.set q (putAt r 0 [.v (.bool b)])))) := by
  subst hq
  refine ⟨1, _, bol B[q], bx2_j, mapAt rfl (List.getElem?_eq_getElem hk), Nat.le_refl 1, ?_⟩
  have e : upd (bx2 st id4 id5 H B) id5 (.ar 1 ((B.map bol).set q (putAt (bol B[q]) 0 [.v (.bool b)]))) = bx2 st id4 id5 H (B.set q b) := by
    have e2 : putAt (bol B[q]) 0 [.v (.bool b)] = bol b := rfl
    rw [e2]
    unfold bx2
    rw [List.map_set]
    funext i
    unfold upd
    by_cases e4 : i = id5
    · rw [if_pos e4, if_pos e4]
    · rw [if_neg e4, if_neg e4, if_neg e4]
  rw [e]
  exact K
theorem put_spec {L : List Sl} (hO : Ok L) (d : By) (h : (putS L d).2.2 = 0) : (putS L d).2.1 < 256 ∧ gs L (putS L d).2.1 = none ∧ ∀ j, gs (putS L d).1 j = if j = (putS L d).2.1 then some d else gs L j := by
  unfold putS at h ⊢
  by_cases h1 : 255 < d.length
  · rw [if_pos h1] at h; cases h
  rw [if_neg h1] at h ⊢
  by_cases h2 : 512 < need (putL L d)
  · rw [if_pos h2] at h; cases h
  rw [if_neg h2]
  have := firstE_le L
  have := hO.len
  exact ⟨by dsimp only; omega, gs_first L, fun j => gs_put L d j⟩
theorem getS_at {L : List Sl} {slot : Int} {d : By} (hO : Ok L) (h : getS L slot = some d) : ∃ k : Nat, slot = (k : Int) ∧ k < L.length ∧ k < 256 ∧ gs L k = some d := by
  obtain ⟨k, rfl, hk, _⟩ := find_some h
  have hl := (List.getElem?_eq_some_iff.1 hk).1
  have := hO.len
  exact ⟨k, rfl, hl, by omega, by unfold gs; rw [hk]; rfl⟩
theorem set_spec {L : List Sl} (hO : Ok L) (slot : Int) (d : By) (h : (setS L slot d).2 = 0) : ∃ k : Nat, slot = (k : Int) ∧ k < 256 ∧ (gs L k).isSome = true ∧ ∀ j, gs (setS L slot d).1 j = if j = k then some d else gs L j := by
  unfold setS at h ⊢
  by_cases h1 : 255 < d.length
  · rw [if_pos h1] at h; cases h
  rw [if_neg h1] at h ⊢
  cases hg : getS L slot with
  | none => rw [hg] at h; cases h
  | some d0 =>
    rw [hg] at h
    dsimp only at h ⊢
    obtain ⟨k, rfl, hl, hk, hd⟩ := getS_at hO hg
    by_cases h2 : 512 < need (L.set ((k : Nat) : Int).toNat (some d))
    · rw [if_pos h2] at h; cases h
    rw [if_neg h2]
    exact ⟨k, rfl, hk, by rw [hd]; rfl, fun j => by rw [Int.toNat_natCast]; exact gs_set hl _ j⟩
theorem drop_spec {L : List Sl} (hO : Ok L) (slot : Int) (h : (dropS L slot).2 = 0) : ∃ k : Nat, slot = (k : Int) ∧ k < 256 ∧ (gs L k).isSome = true ∧ ∀ j, gs (dropS L slot).1 j = if j = k then none else gs L j := by
  unfold dropS at h ⊢
  cases hg : getS L slot with
  | none => rw [hg] at h; cases h
  | some d0 =>
    dsimp only
    obtain ⟨k, rfl, hl, hk, hd⟩ := getS_at hO hg
    exact ⟨k, rfl, hk, by rw [hd]; rfl, fun j => by rw [Int.toNat_natCast, gs_trim]; exact gs_set hl _ j⟩
theorem pageKeeps_law (l : List Act) (hw : wfActs l) : Is Try.prog 4 [.c (.sl 3 (l.map eAct))] (vB true) := by
  have hll : ((l.map eAct).length : Int) = (l.length : Nat) := by rw [List.length_map]
  refine Is.of TP Try.func4 rfl rfl (Nat.le_of_ble_eq_true rfl) fun st => Pw.of TP [1000004,1000005,23] ?_
  conv => whnf
  refine new_is.call ?_
  conv => whnf
  refine ⟨rfl, by decide, by decide, by decide, by decide, by decide, fun id4 h4 => ?_⟩
  conv => whnf
  refine ⟨rfl, by decide, by decide, by decide, by decide, by decide, fun id5 h5 => ?_⟩
  conv => whnf
  have h45 : id4 ≠ id5 := fun e => by subst e; rw [upd_same] at h5; cases h5
  have h50 : st id5 = none := by rw [upd_ne _ (fun e => h45 e.symm)] at h5; exact h5
  have hle : ∀ H B, Le st (bx2 st id4 id5 H B) := fun H B => Le.up (Le.up (.refl _) h4) (by rw [upd_ne _ (fun e => h45 e.symm)]; exact h50)
  refine Pw.loop (σ := Nat × List Sl × List AC × List Bool) (fun x => [(6, vI .i64 (x.1 : Int)), (3, .c (pgC x.2.1)), (4, .c (.arr id4 0 256)), (5, .c (.arr id5 0 256)), (0, .c (.sl 3 (l.map eAct)))]) (fun x => bx2 st id4 id5 x.2.2.1 x.2.2.2) (fun x => Ok x.2.1 ∧ x.1 ≤ l.length ∧ x.1 ≤ 60 ∧ Held x.2.1 x.2.2.1 x.2.2.2) (fun x => 60 - x.1) ⟨(0, [], List.replicate 256 (.v (.slice none 0 0)), List.replicate 256 false), .mk ⟨rfl, rfl, rfl, rfl, rfl, trivial⟩ ?_, ok_nil, Nat.zero_le _, Nat.zero_le _, held0⟩ ?_
  · unfold bx2
    rw [List.map_replicate, List.map_replicate]
    exact .refl _
  clear h5
  rintro ⟨i, L, H, B⟩ ⟨hO, hi1, hi2, hH⟩
  dsimp only at hO hi1 hi2 hH ⊢
  refine Pw.of TP [23] ?_
  conv => whnf
  have hgs : ∀ k, k < 256 → B[k]? = some (gs L k).isSome := hH.is
  have hO4 : bx2 st id4 id5 H B id4 = some (.ar 1 (H.map cel)) := bx2_i h45
  have hO5 : bx2 st id4 id5 H B id5 = some (.ar 1 (B.map bol)) := bx2_j
  refine ⟨fun h => ?_, fun h => ?_⟩ <;> conv => whnf
  case' refine_1 =>
    refine ⟨fun h60 => ?_, fun h60 => ?_⟩ <;> conv => whnf
  case' refine_1.refine_1 =>
    have hi : i < l.length := by omega
    have h60x : i < 60 := by omega
    have key : ∀ F : List AC → Prop, F (eAct l[i]) → 0 ≤ (i : Int) ∧ (i : Int) < ((l.map eAct).length : Nat) ∧ ∃ r, (l.map eAct)[(i : Int).toNat]? = some r ∧ F r := fun F hF => ixm hi hF
    generalize l[i] = a at key
    obtain ⟨op, slot, data⟩ := a
    refine key _ ?_
    conv => whnf
    refine (long_is ⟨op, slot, data⟩).callB fun b hb => ?_
    rcases b with _ | _
    rotate_left
    · conv => whnf
      refine pworks_is.call ?_
      conv => whnf
      exact Fin.old rfl (hle H B)
    conv => whnf
    have ha : data.length ≤ 600 := by have := of_decide_eq_false hb; dsimp only at this; omega
    have hgo : ∀ (M : List Sl) H' B', Ok M → Held M H' B' → ∀ st' : Sto, st' = bx2 st id4 id5 H' B' → ∀ env : Env, EVe env [(6, vI .i64 (IntKind.i64.wrap ((i : Int) + 1))), (3, .c (pgC M)), (4, .c (.arr id4 0 256)), (5, .c (.arr id5 0 256)), (0, .c (.sl 3 (l.map eAct)))] → ∃ y : Nat × List Sl × List AC × List Bool, Vw env st' [(6, vI .i64 (y.1 : Int)), (3, .c (pgC y.2.1)), (4, .c (.arr id4 0 256)), (5, .c (.arr id5 0 256)), (0, .c (.sl 3 (l.map eAct)))] (bx2 st id4 id5 y.2.2.1 y.2.2.2) ∧ (Ok y.2.1 ∧ y.1 ≤ l.length ∧ y.1 ≤ 60 ∧ Held y.2.1 y.2.2.1 y.2.2.2) ∧ 60 - y.1 < 60 - i := fun M H' B' hM hH' st' hst env he => by
      rw [wrap_nat (n := 60) (by omega) (by decide)] at he
      subst hst
      exact ⟨(i + 1, M, H', B'), .mk he (.refl _), ⟨hM, hi, h60x, hH'⟩, by dsimp only; omega⟩
    refine Pw.drw TP mixed (by kernel_rfl) ?_; conv => whnf
    refine key _ ?_
    conv => whnf
    refine key _ ?_
    conv => whnf
    refine ⟨fun h0 => ?_, fun h0 => ?_⟩ <;> conv => whnf
    · have h0 : op = 0 := h0
      subst h0
      refine key _ ?_
      conv => whnf
      refine (put_is hO (d := data) (by omega)).call ?_
      have kput := put_spec hO data
      have oput := putS_ok hO data
      generalize putS L data = P at kput oput
      obtain ⟨pl, pk, pe⟩ := P
      rcases pe with _ | pe
      · obtain ⟨hk, hno, hM⟩ := kput rfl
        have hOM := oput rfl
        dsimp only at hk hno hM hOM
        clear kput oput
        have his : B[pk]? = some false := by rw [hH.is pk hk, hno]; rfl
        conv => whnf
        refine ⟨fun h => absurd rfl h, fun _ => ?_⟩
        conv => whnf
        refine key _ ?_
        conv => whnf
        refine ⟨fun h => absurd h (show ¬ (0 : Int) < 0 by decide), fun _ => ?_⟩
        conv => whnf
        refine key _ ?_
        conv => whnf
        refine ⟨fun h => absurd h (show ¬ (2 : Int) < 0 by decide), fun _ => ?_⟩
        conv => whnf
        refine ⟨fun h => absurd h (by dsimp only; omega), fun _ => ?_⟩
        conv => whnf
        refine ⟨fun h => absurd h (by dsimp only; omega), fun _ => ?_⟩
        conv => whnf
        refine key _ ?_
        conv => whnf
        refine ⟨fun _ => ?_, fun h => absurd rfl h⟩
        conv => whnf
        refine ixR hO5 rfl hk ?_
        conv => whnf
        refine ⟨1, _, bol false, hO5, mapAt (k := pk) (show 0 + ((pk : Nat) : Int).toNat = pk by omega) his, ?_⟩
        conv => whnf
        refine key _ ?_
        conv => whnf
        refine ⟨fun h => absurd rfl h, fun _ => ?_⟩
        conv => whnf
        refine key _ ?_
        conv => whnf
        refine ixR hO4 rfl hk ?_
        conv => whnf
        refine stH (k := pk) h45 (by rw [hH.hl]; exact hk) (show 0 + ((pk : Nat) : Int).toNat = pk by omega) ?_
        conv => whnf
        refine key _ ?_
        conv => whnf
        refine ⟨fun _ => ?_, fun h => absurd (show ¬ (0 : Int) = 2 by decide) h⟩
        conv => whnf
        refine ixR bx2_j rfl hk ?_
        conv => whnf
        refine stBl (k := pk) (by rw [hH.bl]; exact hk) (show 0 + ((pk : Nat) : Int).toNat = pk by omega) ?_
        conv => whnf
        exact hgo pl _ _ hOM (hH.upd hk hM (fun d h => by cases h; rfl)) _ rfl _ ⟨rfl, rfl, rfl, rfl, rfl, trivial⟩
      · conv => whnf
        refine ⟨fun _ => ?_, fun h => absurd (show ((pe + 1 : Nat) : Int) ≠ 0 by omega) h⟩
        conv => whnf
        exact hgo L H B hO hH _ rfl _ ⟨rfl, rfl, rfl, rfl, rfl, trivial⟩
    refine ⟨fun h1 => ?_, fun h1 => ?_⟩ <;> conv => whnf
    · have h1 : op = 1 := h1
      subst h1
      refine key _ ?_
      conv => whnf
      refine (set_is hO (d := data) (by omega) slot).call ?_
      have kput := set_spec hO slot data
      have oput := setS_ok hO slot data
      generalize setS L slot data = P at kput oput
      obtain ⟨pl, pe⟩ := P
      rcases pe with _ | pe
      · obtain ⟨pk, rfl, hk, hno, hM⟩ := kput rfl
        have hOM := oput rfl
        dsimp only at hk hno hM hOM
        clear kput oput
        have his : B[pk]? = some true := by rw [hH.is pk hk, hno]
        conv => whnf
        refine ⟨fun h => absurd rfl h, fun _ => ?_⟩
        conv => whnf
        refine key _ ?_
        conv => whnf
        refine ⟨fun h => absurd h (show ¬ (1 : Int) < 0 by decide), fun _ => ?_⟩
        conv => whnf
        refine key _ ?_
        conv => whnf
        refine ⟨fun h => absurd h (show ¬ (2 : Int) < 1 by decide), fun _ => ?_⟩
        conv => whnf
        refine ⟨fun h => absurd h (by dsimp only; omega), fun _ => ?_⟩
        conv => whnf
        refine ⟨fun h => absurd h (by dsimp only; omega), fun _ => ?_⟩
        conv => whnf
        refine key _ ?_
        conv => whnf
        refine ⟨fun h => absurd h (show ¬ (1 : Int) = 0 by decide), fun _ => ?_⟩
        conv => whnf
        refine key _ ?_
        conv => whnf
        refine ⟨fun _ => ?_, fun h => absurd (show ¬ (1 : Int) = 0 by decide) h⟩
        conv => whnf
        refine ixR hO5 rfl hk ?_
        conv => whnf
        refine ⟨1, _, bol true, hO5, mapAt (k := pk) (show 0 + ((pk : Nat) : Int).toNat = pk by omega) his, ?_⟩
        conv => whnf
        refine key _ ?_
        conv => whnf
        refine ixR hO4 rfl hk ?_
        conv => whnf
        refine stH (k := pk) h45 (by rw [hH.hl]; exact hk) (show 0 + ((pk : Nat) : Int).toNat = pk by omega) ?_
        conv => whnf
        refine key _ ?_
        conv => whnf
        refine ⟨fun _ => ?_, fun h => absurd (show ¬ (1 : Int) = 2 by decide) h⟩
        conv => whnf
        refine ixR bx2_j rfl hk ?_
        conv => whnf
        refine stBl (k := pk) (by rw [hH.bl]; exact hk) (show 0 + ((pk : Nat) : Int).toNat = pk by omega) ?_
        conv => whnf
        exact hgo pl _ _ hOM (hH.upd hk hM (fun d h => by cases h; rfl)) _ rfl _ ⟨rfl, rfl, rfl, rfl, rfl, trivial⟩
      · conv => whnf
        refine ⟨fun _ => ?_, fun h => absurd (show ((pe + 1 : Nat) : Int) ≠ 0 by omega) h⟩
        conv => whnf
        exact hgo L H B hO hH _ rfl _ ⟨rfl, rfl, rfl, rfl, rfl, trivial⟩
    refine ⟨fun h2 => ?_, fun h2 => ?_⟩ <;> conv => whnf
    · have h2 : op = 2 := h2
      subst h2
      refine (drop_is hO slot).call ?_
      have kput := drop_spec hO slot
      have oput := dropS_ok hO slot
      generalize dropS L slot = P at kput oput
      obtain ⟨pl, pe⟩ := P
      rcases pe with _ | pe
      · obtain ⟨pk, rfl, hk, hno, hM⟩ := kput rfl
        have hOM := oput rfl
        dsimp only at hk hno hM hOM
        clear kput oput
        have his : B[pk]? = some true := by rw [hH.is pk hk, hno]
        conv => whnf
        refine ⟨fun h => absurd rfl h, fun _ => ?_⟩
        conv => whnf
        refine key _ ?_
        conv => whnf
        refine ⟨fun h => absurd h (show ¬ (2 : Int) < 0 by decide), fun _ => ?_⟩
        conv => whnf
        refine key _ ?_
        conv => whnf
        refine ⟨fun h => absurd h (show ¬ (2 : Int) < 2 by decide), fun _ => ?_⟩
        conv => whnf
        refine ⟨fun h => absurd h (by dsimp only; omega), fun _ => ?_⟩
        conv => whnf
        refine ⟨fun h => absurd h (by dsimp only; omega), fun _ => ?_⟩
        conv => whnf
        refine key _ ?_
        conv => whnf
        refine ⟨fun h => absurd h (show ¬ (2 : Int) = 0 by decide), fun _ => ?_⟩
        conv => whnf
        refine key _ ?_
        conv => whnf
        refine ⟨fun _ => ?_, fun h => absurd (show ¬ (2 : Int) = 0 by decide) h⟩
        conv => whnf
        refine ixR hO5 rfl hk ?_
        conv => whnf
        refine ⟨1, _, bol true, hO5, mapAt (k := pk) (show 0 + ((pk : Nat) : Int).toNat = pk by omega) his, ?_⟩
        conv => whnf
        refine key _ ?_
        conv => whnf
        refine ixR hO4 rfl hk ?_
        conv => whnf
        refine stH (k := pk) h45 (by rw [hH.hl]; exact hk) (show 0 + ((pk : Nat) : Int).toNat = pk by omega) ?_
        conv => whnf
        refine key _ ?_
        conv => whnf
        refine ⟨fun h => absurd rfl h, fun _ => ?_⟩
        conv => whnf
        refine ixR bx2_j rfl hk ?_
        conv => whnf
        refine stBl (k := pk) (by rw [hH.bl]; exact hk) (show 0 + ((pk : Nat) : Int).toNat = pk by omega) ?_
        conv => whnf
        exact hgo pl _ _ hOM (hH.upd (s := none) hk hM (fun d h => by cases h)) _ rfl _ ⟨rfl, rfl, rfl, rfl, rfl, trivial⟩
      · conv => whnf
        refine ⟨fun _ => ?_, fun h => absurd (show ((pe + 1 : Nat) : Int) ≠ 0 by omega) h⟩
        conv => whnf
        exact hgo L H B hO hH _ rfl _ ⟨rfl, rfl, rfl, rfl, rfl, trivial⟩
    refine ⟨fun h => absurd rfl h, fun _ => ?_⟩
    conv => whnf
    refine key _ ?_
    conv => whnf
    refine ⟨fun h3 => ?_, fun h3 => ?_⟩ <;> conv => whnf
    · exact hgo L H B hO hH _ rfl _ ⟨rfl, rfl, rfl, rfl, rfl, trivial⟩
    refine key _ ?_
    conv => whnf
    refine ⟨fun h4 => ?_, fun h4 => ?_⟩ <;> conv => whnf
    · exact hgo L H B hO hH _ rfl _ ⟨rfl, rfl, rfl, rfl, rfl, trivial⟩
    · exfalso
      dsimp only at h0 h1 h2 h3 h4
      omega
  all_goals
    refine Pw.vw (env' := [(3, .c (pgC L)), (4, .c (.arr id4 0 256)), (5, .c (.arr id5 0 256))]) (st' := bx2 st id4 id5 H B) ?_ (Pw.of TP [] ?_)
    · exact .mk ⟨rfl, rfl, rfl, trivial⟩ (.refl _)
    conv => whnf
    refine Pw.rng (τ := Unit) 10 256 (by decide) [3, 4, 5] (fun _ => []) (fun _ _ => True) () rfl trivial trivial fun k _ hk _ => Pw.of TP [] ?_
    conv => whnf
    refine ⟨fun hk => ?_, fun hk => ?_⟩ <;> conv => whnf
    · have hk' : k < 256 := by omega
      have his := hgs k hk'
      have hget := get_is hO (k : Int)
      rw [getS_gs] at hget
      have hat := hH.at_ k
      have hnext : ∀ x y : Bool, x = y → (decide (x = y)) = true := fun x y h => decide_eq_true h
      refine hget.call ?_
      have hfew : ∀ d, gs L k = some d → d.length ≤ Big := fun d hd => by
        have hm : some d ∈ L := by
          unfold gs at hd
          cases hh : L[k]? with
          | none => rw [hh] at hd; cases hd
          | some a => rw [hh] at hd; cases hd; exact List.mem_of_getElem? hh
        have := hO.few _ hm
        simp only [dz] at this
        unfold Big; omega
      generalize gs L k = g at his hat hfew
      rcases g with _ | d
      · conv => whnf
        refine ⟨fun h => absurd h (by decide), fun _ => ?_⟩
        conv => whnf
        refine ixR hO5 rfl hk' ?_
        conv => whnf
        refine ⟨1, _, bol false, hO5, mapAt (k := k) (show 0 + ((k : Nat) : Int).toNat = k by omega) his, ?_⟩
        conv => whnf
        refine ixR hO5 rfl hk' ?_
        conv => whnf
        refine ⟨1, _, bol false, hO5, mapAt (k := k) (show 0 + ((k : Nat) : Int).toNat = k by omega) his, ?_⟩
        conv => whnf
        exact ⟨hk', rfl, ⟨rfl, rfl, rfl, trivial⟩, (), trivial, .refl _, trivial⟩
      · have hat := hat d rfl
        conv => whnf
        refine ⟨fun _ => ?_, fun h => absurd rfl h⟩
        conv => whnf
        refine ixR hO5 rfl hk' ?_
        conv => whnf
        refine ⟨1, _, bol true, hO5, mapAt (k := k) (show 0 + ((k : Nat) : Int).toNat = k by omega) his, ?_⟩
        conv => whnf
        refine ixR hO5 rfl hk' ?_
        conv => whnf
        refine ⟨1, _, bol true, hO5, mapAt (k := k) (show 0 + ((k : Nat) : Int).toNat = k by omega) his, ?_⟩
        conv => whnf
        refine ixR hO4 rfl hk' ?_
        conv => whnf
        refine ⟨1, _, cel (.sl 1 (byl d)), hO4, mapAt (k := k) (show 0 + ((k : Nat) : Int).toNat = k by omega) hat, ?_⟩
        conv => whnf
        refine (same_is d d ?_).call ?_
        · exact hfew d rfl
        rw [decide_eq_true rfl]
        conv => whnf
        exact ⟨hk', rfl, ⟨rfl, rfl, rfl, trivial⟩, (), trivial, .refl _, trivial⟩
    · refine pworks_is.call ?_
      conv => whnf
      exact Fin.old rfl (hle H B)
end Go.Proofs.Ytfkkajibaeppbaa.D
