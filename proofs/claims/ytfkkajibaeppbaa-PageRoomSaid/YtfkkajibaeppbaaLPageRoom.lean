/- Words and contracts: a plain machine over the model, and what the functions that a law reaches come to, each for every input that its theorem names. -/
import Derived.Test.YtfkkajibaeppbaaK2
namespace Go.Proofs.Ytfkkajibaeppbaa.D
set_option linter.unusedVariables false
set_option linter.unusedSimpArgs false
open Go Go.Proofs.Ytfkkajibaeppbaa.D.Pm
set_option maxRecDepth 4000
structure Act where
  op : Int
  slot : Int
  data : By
def eAct (a : Act) : List AC := [.v (.int .i64 a.op), .v (.int .i64 a.slot), .sl 1 (byl a.data)]
theorem long_is (a : Act) : Is Try.prog 11 [.g (eAct a)] (vB (decide (600 < a.data.length))) := by
  have hbl : ((byl a.data).length : Int) = (a.data.length : Nat) := by rw [byl_length]
  refine Is.of TP Try.func11 rfl rfl (Nat.le_of_ble_eq_true rfl) fun st => Pw.of TP [] ?_
  conv => whnf
  refine ⟨fun h => ?_, fun h => ?_⟩ <;> conv => whnf
  · refine Fin.old (congrArg vB ?_) (.refl _)
    exact (decide_eq_true (by omega)).symm
  · refine Fin.old (congrArg vB ?_) (.refl _)
    exact (decide_eq_false (by omega)).symm
/-- what an act makes of slots -/
def actL (l : List Sl) (a : Act) : List Sl :=
  if a.op = 0 then (if (putS l a.data).2.2 = 0 then (putS l a.data).1 else l)
  else if a.op = 1 then (if (setS l a.slot a.data).2 = 0 then (setS l a.slot a.data).1 else l)
  else if a.op = 2 then (if (dropS l a.slot).2 = 0 then (dropS l a.slot).1 else l)
  else l
theorem putS_ok {l : List Sl} (hO : Ok l) (d : By) (h : (putS l d).2.2 = 0) : Ok (putS l d).1 := by
  unfold putS at h ⊢
  by_cases h1 : 255 < d.length
  · rw [if_pos h1] at h; cases h
  rw [if_neg h1] at h ⊢
  by_cases h2 : 512 < need (putL l d)
  · rw [if_pos h2] at h; cases h
  rw [if_neg h2]
  exact ok_putL hO (by omega) (by omega)
theorem setS_ok {l : List Sl} (hO : Ok l) (slot : Int) (d : By) (h : (setS l slot d).2 = 0) : Ok (setS l slot d).1 := by
  unfold setS at h ⊢
  by_cases h1 : 255 < d.length
  · rw [if_pos h1] at h; cases h
  rw [if_neg h1] at h ⊢
  cases hg : getS l slot with
  | none => rw [hg] at h; cases h
  | some d0 =>
    rw [hg] at h
    dsimp only at h ⊢
    by_cases h2 : 512 < need (l.set slot.toNat (some d))
    · rw [if_pos h2] at h; cases h
    rw [if_neg h2]
    exact ok_set hO (by omega) (by omega)
theorem dropS_ok {l : List Sl} (hO : Ok l) (slot : Int) (h : (dropS l slot).2 = 0) : Ok (dropS l slot).1 := by
  unfold dropS at h ⊢
  cases hg : getS l slot with
  | none => rw [hg] at h; cases h
  | some d0 =>
    obtain ⟨k, rfl, hk, _⟩ := find_some hg
    have hk' : k < l.length := (List.getElem?_eq_some_iff.1 hk).1
    dsimp only
    rw [Int.toNat_natCast]
    refine ok_trim ?_ fun s hs => ?_
    · have := need_set hk' none
      have := hO.fit
      simp [dz] at *
      omega
    · rcases List.mem_or_eq_of_mem_set hs with h | h
      · exact hO.few s h
      · subst h; exact Nat.zero_le _
theorem actL_ok {l : List Sl} (hO : Ok l) (a : Act) : Ok (actL l a) := by
  unfold actL
  split
  · split
    · exact putS_ok hO _ (by assumption)
    · exact hO
  · split
    · split
      · exact setS_ok hO _ _ (by assumption)
      · exact hO
    · split
      · split
        · exact dropS_ok hO _ (by assumption)
        · exact hO
      · exact hO
def doneR (l : List Sl) : AV := .t [.c (pgC l), .c (eSls l), vB true]
theorem done_is {l : List Sl} (hO : Ok l) (a : Act) (ha : a.data.length ≤ 600) : Is Try.prog 21 [.c (pgC l), .c (eSls l), .g (eAct a)] (doneR (actL l a)) := by
  have hl := hO.len
  obtain ⟨op, slot, data⟩ := a
  dsimp only at ha
  have hput := put_is hO (d := data) (by omega)
  have hrput := rput_is (l := l) (by omega) hO.few data (by omega)
  have hset := set_is hO (d := data) (by omega) slot
  have hrset := rset_is (l := l) (by omega) hO.few data (by omega) slot
  have hdrop := drop_is hO slot
  have hrdrop := rdrop_is (l := l) (by omega) slot
  have hget := get_is hO slot
  have kput := putS_ok hO data
  have kset := setS_ok hO slot data
  have kdrop := dropS_ok hO slot
  have eact : actL l ⟨op, slot, data⟩ = if op = 0 then (if (putS l data).2.2 = 0 then (putS l data).1 else l)
    else if op = 1 then (if (setS l slot data).2 = 0 then (setS l slot data).1 else l)
    else if op = 2 then (if (dropS l slot).2 = 0 then (dropS l slot).1 else l)
    else l := rfl
  rw [eact]
  clear eact
  generalize putS l data = P at hput hrput kput
  generalize setS l slot data = T at hset hrset kset
  generalize dropS l slot = D at hdrop hrdrop kdrop
  obtain ⟨pl, pk, pe⟩ := P
  obtain ⟨tl, te⟩ := T
  obtain ⟨dl, de⟩ := D
  dsimp only at kput kset kdrop ⊢
  refine Is.of TP Try.func21 rfl rfl (Nat.le_of_ble_eq_true rfl) fun st => Pw.of TP [] ?_
  conv => whnf
  have hb1 : ∀ {L : List Sl}, Ok L → Is Try.prog 20 [.c (eSls L)] (.c (.sl 1 (byl (pg L)))) := fun h => bytes_is h.fit h.few
  have hs1 : ∀ {L : List Sl}, Ok L → Is Try.prog 19 [.c (.sl 1 (byl (pg L))), .c (.sl 1 (byl (pg L)))] (vB true) := fun {L} h => by
    have := same_is (pg L) (pg L) (by rw [pg_length h.fit]; decide)
    rwa [decide_eq_true rfl] at this
  refine ⟨fun h0 => ?_, fun h0 => ?_⟩ <;> conv => whnf
  · have h0 : op = 0 := h0
    rcases pe with _ | pe
    · skip
      refine hput.call ?_
      conv => whnf
      refine hrput.call ?_
      conv => whnf
      refine ⟨fun h => absurd rfl h, fun _ => ?_⟩
      conv => whnf
      refine ⟨fun h => absurd rfl h, fun _ => ?_⟩
      conv => whnf
      refine ⟨fun h => absurd rfl h, fun _ => ?_⟩
      conv => whnf
      refine ⟨fun h => absurd rfl h, fun _ => ?_⟩
      conv => whnf
      refine (hb1 (kput rfl)).call ?_
      conv => whnf
      refine (hs1 (kput rfl)).call ?_
      conv => whnf
      refine Fin.old (show doneR pl = _ from ?_) (.refl _)
      rw [if_pos h0, if_pos rfl]
    · skip
      refine hput.call ?_
      conv => whnf
      refine hrput.call ?_
      conv => whnf
      refine ⟨fun h => absurd rfl h, fun _ => ?_⟩
      conv => whnf
      refine ⟨fun h => absurd rfl h, fun _ => ?_⟩
      conv => whnf
      refine ⟨fun h => ?_, fun h => absurd h (by dsimp only; omega)⟩
      conv => whnf
      refine ⟨fun h => absurd h (by decide), fun _ => ?_⟩
      conv => whnf
      refine ⟨fun h => ?_, fun h => absurd h (by dsimp only; omega)⟩
      conv => whnf
      refine Fin.old (show doneR l = _ from ?_) (.refl _)
      rw [if_pos h0, if_neg (by omega)]
  have h0 : ¬ op = 0 := h0
  refine ⟨fun h1 => ?_, fun h1 => ?_⟩ <;> conv => whnf
  · have h1 : op = 1 := h1
    rcases te with _ | te
    · skip
      refine hset.call ?_
      conv => whnf
      refine hrset.call ?_
      conv => whnf
      refine ⟨fun h => absurd rfl h, fun _ => ?_⟩
      conv => whnf
      refine ⟨fun h => absurd rfl h, fun _ => ?_⟩
      conv => whnf
      refine ⟨fun h => absurd rfl h, fun _ => ?_⟩
      conv => whnf
      refine ⟨fun h => absurd rfl h, fun _ => ?_⟩
      conv => whnf
      refine (hb1 (kset rfl)).call ?_
      conv => whnf
      refine (hs1 (kset rfl)).call ?_
      conv => whnf
      refine Fin.old (show doneR tl = _ from ?_) (.refl _)
      rw [if_neg h0, if_pos h1, if_pos rfl]
    · skip
      refine hset.call ?_
      conv => whnf
      refine hrset.call ?_
      conv => whnf
      refine ⟨fun h => absurd rfl h, fun _ => ?_⟩
      conv => whnf
      refine ⟨fun h => absurd rfl h, fun _ => ?_⟩
      conv => whnf
      refine ⟨fun h => ?_, fun h => absurd h (by dsimp only; omega)⟩
      conv => whnf
      refine ⟨fun h => absurd h (by decide), fun _ => ?_⟩
      conv => whnf
      refine ⟨fun h => ?_, fun h => absurd h (by dsimp only; omega)⟩
      conv => whnf
      refine Fin.old (show doneR l = _ from ?_) (.refl _)
      rw [if_neg h0, if_pos h1, if_neg (by omega)]
  have h1 : ¬ op = 1 := h1
  refine ⟨fun h2 => ?_, fun h2 => ?_⟩ <;> conv => whnf
  · have h2 : op = 2 := h2
    rcases de with _ | de
    · skip
      refine hdrop.call ?_
      conv => whnf
      refine hrdrop.call ?_
      conv => whnf
      refine ⟨fun h => absurd rfl h, fun _ => ?_⟩
      conv => whnf
      refine ⟨fun h => absurd rfl h, fun _ => ?_⟩
      conv => whnf
      refine ⟨fun h => absurd rfl h, fun _ => ?_⟩
      conv => whnf
      refine ⟨fun h => absurd rfl h, fun _ => ?_⟩
      conv => whnf
      refine (hb1 (kdrop rfl)).call ?_
      conv => whnf
      refine (hs1 (kdrop rfl)).call ?_
      conv => whnf
      refine Fin.old (show doneR dl = _ from ?_) (.refl _)
      rw [if_neg h0, if_neg h1, if_pos h2, if_pos rfl]
    · skip
      refine hdrop.call ?_
      conv => whnf
      refine hrdrop.call ?_
      conv => whnf
      refine ⟨fun h => absurd rfl h, fun _ => ?_⟩
      conv => whnf
      refine ⟨fun h => absurd rfl h, fun _ => ?_⟩
      conv => whnf
      refine ⟨fun h => ?_, fun h => absurd h (by dsimp only; omega)⟩
      conv => whnf
      refine ⟨fun h => absurd h (by decide), fun _ => ?_⟩
      conv => whnf
      refine ⟨fun h => ?_, fun h => absurd h (by dsimp only; omega)⟩
      conv => whnf
      refine Fin.old (show doneR l = _ from ?_) (.refl _)
      rw [if_neg h0, if_neg h1, if_pos h2, if_neg (by omega)]
  have h2 : ¬ op = 2 := h2
  refine hget.call ?_
  have hll : ((l.map eSl).length : Int) = (l.length : Nat) := by rw [List.length_map]
  have hres : doneR l = doneR (if op = 0 then if pe = 0 then pl else l else if op = 1 then if te = 0 then tl else l else if op = 2 then if de = 0 then dl else l else l) := by rw [if_neg h0, if_neg h1, if_neg h2]
  rw [← hres]
  clear hres hput hrput hset hrset hdrop hrdrop kput kset kdrop hget
  cases hg : getS l slot with
  | some d =>
    obtain ⟨k, rfl, hk, _⟩ := find_some hg
    have hk' : k < l.length := (List.getElem?_eq_some_iff.1 hk).1
    have hd : l[k] = some d := (List.getElem?_eq_some_iff.1 hk).2
    have hdl : d.length ≤ 255 := by
      have := hO.few _ (List.getElem_mem hk')
      rw [hd] at this
      exact this
    have key : ∀ F : List AC → Prop, F (eSl (some d)) → 0 ≤ (k : Int) ∧ (k : Int) < ((l.map eSl).length : Nat) ∧ ∃ r, (l.map eSl)[(k : Int).toNat]? = some r ∧ F r := fun F hF => ixm hk' (by rw [hd]; exact hF)
    conv => whnf
    refine ⟨fun h => ?_, fun h => absurd h (by dsimp only; omega)⟩
    conv => whnf
    refine ⟨fun h => ?_, fun h => absurd h (by dsimp only; omega)⟩
    conv => whnf
    refine key _ ?_
    conv => whnf
    refine ⟨fun h => ?_, fun h => absurd rfl h⟩
    conv => whnf
    refine key _ ?_
    conv => whnf
    refine (same_is d d (by unfold Big; omega)).call ?_
    rw [decide_eq_true rfl]
    conv => whnf
    exact Fin.old rfl (.refl _)
  | none =>
    conv => whnf
    refine ⟨fun h => ?_, fun h => ?_⟩ <;> conv => whnf
    · refine ⟨fun h => ?_, fun h => ?_⟩ <;> conv => whnf
      · have hi : slot.toNat < l.length := by dsimp only at *; omega
        have e : slot = ((slot.toNat : Nat) : Int) := by dsimp only at *; omega
        rw [e] at hg ⊢
        generalize slot.toNat = k at hi hg
        have hn : l[k] = none := by
          unfold getS at hg
          rw [if_neg (by omega), Int.toNat_natCast, List.getElem?_eq_getElem hi] at hg
          exact hg
        refine ixm hi ?_
        rw [hn]
        conv => whnf
        refine ⟨fun h => absurd h (by decide), fun _ => ?_⟩
        conv => whnf
        refine ⟨fun h => ?_, fun h => absurd rfl h⟩
        conv => whnf
        refine ⟨fun h => ?_, fun h => absurd rfl h⟩
        conv => whnf
        exact Fin.old rfl (.refl _)
      · refine ⟨fun h => absurd h (by decide), fun _ => ?_⟩
        conv => whnf
        refine ⟨fun h => ?_, fun h => absurd rfl h⟩
        conv => whnf
        refine ⟨fun h => ?_, fun h => absurd rfl h⟩
        conv => whnf
        exact Fin.old rfl (.refl _)
    · refine ⟨fun h => absurd h (by decide), fun _ => ?_⟩
      conv => whnf
      refine ⟨fun h => ?_, fun h => absurd rfl h⟩
      conv => whnf
      refine ⟨fun h => ?_, fun h => absurd rfl h⟩
      conv => whnf
      exact Fin.old rfl (.refl _)
end Go.Proofs.Ytfkkajibaeppbaa.D
namespace Go.Proofs.Ytfkkajibaeppbaa.D
set_option linter.unusedVariables false
set_option linter.unusedSimpArgs false
open Go Go.Proofs.Ytfkkajibaeppbaa.D.Pm
set_option maxRecDepth 4000
def abc : By := [97, 98, 99]
theorem put_abc : putS [] abc = ([some abc], 0, 0) := by decide
theorem ok_abc : Ok [some abc] := by
  have := putS_ok ok_nil abc (by rw [put_abc])
  rwa [put_abc] at this
theorem pworks_is : Is Try.prog 12 [] (vB true) := by
  have c1 := put_is ok_nil (d := abc) (by decide)
  rw [put_abc] at c1
  have c2 := get_is ok_abc 0
  have e2 : getS [some abc] 0 = some abc := by decide
  rw [e2] at c2
  have c3 := room_top ok_nil
  have c4 := room_top ok_abc
  refine Is.of TP Try.func12 rfl rfl (Nat.le_of_ble_eq_true rfl) fun st => Pw.of TP [1000008] ?_
  conv => whnf
  refine new_is.call ?_
  conv => whnf
  intro id hid
  conv => whnf
  refine ⟨rfl, rfl, by decide, _, upd_same _ _ _, rfl, ?_⟩
  conv => whnf
  refine c1.call ?_
  conv => whnf
  refine c2.call ?_
  conv => whnf
  refine ⟨fun _ => ?_, fun h => absurd rfl h⟩
  conv => whnf
  refine ⟨fun _ => ?_, fun h => absurd rfl h⟩
  conv => whnf
  refine ⟨fun _ => ?_, fun h => absurd rfl h⟩
  conv => whnf
  refine ⟨rfl, ⟨⟨#[97, 98, 99]⟩, rfl, ?_⟩⟩
  conv => whnf
  refine ⟨fun _ => ?_, fun h => absurd rfl h⟩
  conv => whnf
  refine new_is.call ?_
  conv => whnf
  refine c3.call ?_
  conv => whnf
  refine ⟨fun _ => ?_, fun h => absurd rfl h⟩
  conv => whnf
  refine c4.call ?_
  conv => whnf
  refine ⟨fun _ => ?_, fun h => absurd rfl h⟩
  conv => whnf
  have hle : Le st (del (upd st id (.ar 1 [[.v (.int .u8 97)], [.v (.int .u8 98)], [.v (.int .u8 99)]])) id) := rows0 hid
  exact Fin.old rfl hle
theorem pagePlays_law0 (l : List Act) (hl : l.length ≤ maxLen) : Is Try.prog 5 [.c (.sl 3 (l.map eAct))] (vB true) := by
  have hll : ((l.map eAct).length : Int) = (l.length : Nat) := by rw [List.length_map]
  refine Is.of TP Try.func5 rfl rfl (Nat.le_of_ble_eq_true rfl) fun st => Pw.of TP [] ?_
  conv => whnf
  refine new_is.call ?_
  conv => whnf
  refine Does.args (as' := [.c (eSls [])]) rfl (fun j r r' h1 h2 => ?_) ?_
  · match j, h1, h2 with
    | 0, h1, h2 => cases h1; cases h2; exact FV.nil _ _ 2
    | j + 1, h1, h2 => simp at h1
  refine (bytes_is ok_nil.fit ok_nil.few).call ?_
  conv => whnf
  refine (same_is (pg []) (pg []) (by decide)).call ?_
  rw [decide_eq_true rfl]
  conv => whnf
  refine Pw.loop (σ := Nat × List Sl) (fun x => [(5, vI .i64 (x.1 : Int)), (3, .c (pgC x.2)), (4, .c (eSls x.2)), (0, .c (.sl 3 (l.map eAct)))]) (fun _ => st) (fun x => Ok x.2 ∧ x.1 ≤ l.length ∧ x.1 ≤ 60) (fun x => 60 - x.1) ⟨(0, []), ⟨fun _ => false, ⟨⟨_, rfl, .refl _⟩, ⟨_, rfl, .refl _⟩, ⟨_, rfl, FV.nil _ _ 2⟩, ⟨_, rfl, .refl _⟩, trivial⟩, fun id o h => ⟨h, rfl⟩⟩, ok_nil, Nat.zero_le _, Nat.zero_le _⟩ ?_
  rintro ⟨i, L⟩ ⟨hO, hi1, hi2⟩
  dsimp only at hO hi1 hi2 ⊢
  refine Pw.of TP [] ?_
  conv => whnf
  have hend : Does Try.prog 12 [] st (fun r s => Fin (fun r' s => r' = vB true ∧ s = st) r s) := pworks_is.call (Fin.old rfl (.refl _))
  refine ⟨fun h => ?_, fun h => ?_⟩ <;> conv => whnf
  · refine ⟨fun h60 => ?_, fun h60 => ?_⟩ <;> conv => whnf
    · have hi : i < l.length := by omega
      have h60x : i < 60 := by omega
      have key : ∀ F : List AC → Prop, F (eAct l[i]) → 0 ≤ (i : Int) ∧ (i : Int) < ((l.map eAct).length : Nat) ∧ ∃ r, (l.map eAct)[(i : Int).toNat]? = some r ∧ F r := fun F hF => ixm hi hF
      generalize l[i] = a at key
      refine key _ ?_
      conv => whnf
      refine (long_is a).callB fun b hb => ?_
      cases b <;> conv => whnf
      · have ha : a.data.length ≤ 600 := by have := of_decide_eq_false hb; omega
        refine key _ ?_
        conv => whnf
        refine (done_is hO a ha).call ?_
        have hO2 := actL_ok hO a
        generalize actL L a = M at hO2
        have hM := hO2.len
        have hf := hO2.fit
        conv => whnf
        refine (room_top hO2).call ?_
        conv => whnf
        refine (size_is M (by omega) (fun s hs => by have := hO2.few s hs; omega)).call ?_
        conv => whnf
        have hw : IntKind.i64.wrap (512 - ((need M : Nat) : Int)) = ((512 - need M : Nat) : Int) := by rw [wrap_id (by omega) (by omega)]; omega
        rw [hw]
        refine ⟨fun h => absurd rfl h, fun _ => ?_⟩
        conv => whnf
        refine (check_pg hO2).call ?_
        conv => whnf
        refine ⟨fun h => absurd rfl h, fun _ => ?_⟩
        conv => whnf
        refine (slots_is hO2).call ?_
        conv => whnf
        refine (rslots_is (l := M) (by omega)).call ?_
        conv => whnf
        refine (numbers_is (slotL 0 M) (slotL 0 M) (by have := slotL_le M 0; unfold Big; omega)).call ?_
        rw [decide_eq_true rfl]
        conv => whnf
        exact ⟨(i + 1, M), .mk ⟨congrArg (fun x => some (vI .i64 x)) (wrap_nat (n := 60) (by omega) (by decide)), rfl, rfl, rfl, trivial⟩ (.refl _), ⟨hO2, hi, h60x⟩, by dsimp only; omega⟩
      · refine hend.mono fun r s h => ?_
        conv => whnf
        exact h
    · refine hend.mono fun r s h => ?_
      conv => whnf
      exact h
  · refine hend.mono fun r s h => ?_
    conv => whnf
    exact h
end Go.Proofs.Ytfkkajibaeppbaa.D
namespace Go.Proofs.Ytfkkajibaeppbaa.D
set_option linter.unusedVariables false
set_option linter.unusedSimpArgs false
open Go Go.Proofs.Ytfkkajibaeppbaa.D.Pm
set_option maxRecDepth 4000
def I64 (n : Int) : Prop := (Lit.int .i64 n).wf = true
theorem Pm.Rd.map {P : Program} {t : TypeId} {m : Nat} {α β : Type} {f : α → List AC} {ok : α → Prop} {f' : β → List AC} {ok' : β → Prop} (h : Rd P t f ok m) (u : α → β) (hu : ∀ a, ok a → f' (u a) = f a ∧ ok' (u a)) : Rd P t f' ok' m := fun H enc w base spare held fuel cs x hm hx => by
  obtain ⟨a, h1, h2⟩ := h H enc w base spare held fuel cs x hm hx
  exact ⟨u a, (hu a h1).2, by rw [(hu a h1).1]; exact h2⟩
theorem u8_of {n : Int} (h : (Lit.int .u8 n).wf = true) : ((UInt8.ofNat n.toNat).toNat : Int) = n := by
  simp [Lit.wf, IntKind.min, IntKind.max, IntKind.bits, IntKind.signed] at h
  rw [UInt8.toNat_ofNat']
  omega
theorem rdU8 (m : Nat) : Rd Try.prog 5 (fun b : UInt8 => [AC.v (.int .u8 (b.toNat : Int))]) (fun _ => True) m :=
  (Rd.int Try.underlying5).map (fun n => UInt8.ofNat n.toNat) fun n h => ⟨by rw [u8_of h], trivial⟩
theorem rdBy (m : Nat) : Rd Try.prog 23 (fun d : By => [.sl 1 (byl d)]) (fun d => d.length ≤ maxLen) m :=
  (Rd.sl (sz := 1) (by decide) Try.underlying23 (by kernel_rfl) (rdU8 m)).mono fun d h => h.1
def wfAct (a : Act) : Prop := I64 a.op ∧ I64 a.slot ∧ a.data.length ≤ maxLen
theorem rdAct (m : Nat) : Rd Try.prog 27 eAct wfAct m :=
  (Rd.st (fun a : Int × Int × By => (⟨a.1, a.2.1, a.2.2⟩ : Act)) (by exact fun a => ⟨rfl, fun h => h⟩) Try.underlying27 (by kernel_rfl)
    (RdF.cons (s1 := 1) rfl (by kernel_rfl) (Rd.int Try.underlying3) (RdF.cons (s1 := 1) rfl (by kernel_rfl) (Rd.int Try.underlying3) (RdF.last (sz := 1) rfl (by kernel_rfl) (rdBy m))))).less
def wfActs (l : List Act) : Prop := l.length ≤ maxLen ∧ ∀ a ∈ l, wfAct a
theorem rdActs (m : Nat) : Rd Try.prog 22 (fun l => [.sl 3 (l.map eAct)]) wfActs m := Rd.sl (sz := 3) (by decide) Try.underlying22 (by kernel_rfl) (rdAct m)
theorem pagePlays_law (l : List Act) (h : wfActs l) : Is Try.prog 5 [.c (.sl 3 (l.map eAct))] (vB true) := pagePlays_law0 l h.1
end Go.Proofs.Ytfkkajibaeppbaa.D
namespace Go.Proofs.Ytfkkajibaeppbaa.D
set_option linter.unusedVariables false
set_option linter.unusedSimpArgs false
open Go Go.Proofs.Ytfkkajibaeppbaa.D.Pm
set_option maxRecDepth 4000
theorem slotL_full : ∀ {l : List Sl} {i : Nat}, firstE l = l.length → ∀ k (hk : k < (slotL i l).length), (slotL i l)[k] = i + k
  | [], i, h, k, hk => by simp [slotL] at hk
  | none :: l, i, h, k, hk => by simp [firstE] at h
  | some d :: l, i, h, 0, hk => by simp [slotL]
  | some d :: l, i, h, k + 1, hk => by
    have := slotL_full (l := l) (i := i + 1) (by simpa [firstE] using h) k (by simpa [slotL] using hk)
    simp only [slotL, List.getElem_cons_succ, this]
    omega
theorem slotL_ge : ∀ {l : List Sl} {i : Nat}, ∀ n ∈ slotL i l, i ≤ n
  | [], i, n, h => by simp [slotL] at h
  | none :: l, i, n, h => by have := slotL_ge (l := l) (i := i + 1) n h; omega
  | some d :: l, i, n, h => by
    rcases List.mem_cons.1 h with h | h
    · omega
    · have := slotL_ge (l := l) (i := i + 1) n h; omega
theorem slotL_ne : ∀ {l : List Sl} {i : Nat}, l ≠ [] → (∀ a, l.getLast? = some a → a ≠ none) → slotL i l ≠ []
  | [none], i, _, h => absurd rfl (h none rfl)
  | [some d], i, _, h => by simp [slotL]
  | none :: b :: l, i, _, h => by
    have := slotL_ne (l := b :: l) (i := i + 1) (by simp) (fun a ha => h a (by simpa using ha))
    exact this
  | some d :: b :: l, i, _, h => by simp [slotL]
theorem slotL_gap : ∀ {l : List Sl} {i : Nat}, firstE l < l.length → (∀ a, l.getLast? = some a → a ≠ none) → ∃ k, ∃ hk : k < (slotL i l).length, (slotL i l)[k] ≠ i + k
  | [], i, h, _ => by simp at h
  | none :: l, i, h, hl => by
    have hne : l ≠ [] := fun e => by subst e; exact hl none rfl rfl
    have h1 := slotL_ne (l := l) (i := i + 1) hne (fun a ha => hl a (by cases l with | nil => exact absurd rfl hne | cons b l => simpa using ha))
    have h2 : 0 < (slotL (i + 1) l).length := List.length_pos_iff.2 h1
    refine ⟨0, h2, ?_⟩
    have := slotL_ge (l := l) (i := i + 1) _ (List.getElem_mem h2)
    show (slotL (i + 1) l)[0] ≠ i + 0
    omega
  | some d :: l, i, h, hl => by
    have h' : firstE l < l.length := by simpa [firstE] using h
    have hne : l ≠ [] := fun e => by subst e; simp at h'
    obtain ⟨k, hk, h2⟩ := slotL_gap (l := l) (i := i + 1) h' (fun a ha => hl a (by cases l with | nil => exact absurd rfl hne | cons b l => simpa using ha))
    refine ⟨k + 1, by simpa [slotL] using hk, ?_⟩
    simp only [slotL, List.getElem_cons_succ]
    omega
/-- what an act makes of slots here -/
def rmL (l : List Sl) (a : Act) : List Sl :=
  if a.op = 0 then (if (putS l a.data).2.2 = 0 then (putS l a.data).1 else l)
  else if a.op = 2 then (if (dropS l a.slot).2 = 0 then (dropS l a.slot).1 else l)
  else l
theorem rmL_ok {l : List Sl} (hO : Ok l) (a : Act) : Ok (rmL l a) := by
  unfold rmL
  split
  · split
    · exact putS_ok hO _ (by assumption)
    · exact hO
  · split
    · split
      · exact dropS_ok hO _ (by assumption)
      · exact hO
    · exact hO
theorem pageRoom_law0 (l : List Act) (d : By) (hw : wfActs l) (hd : d.length ≤ maxLen) : Is Try.prog 3 [.c (.sl 3 (l.map eAct)), .c (.sl 1 (byl d))] (vB true) := by
  have hll : ((l.map eAct).length : Int) = (l.length : Nat) := by rw [List.length_map]
  have hbl : ((byl d).length : Int) = (d.length : Nat) := by rw [byl_length]
  refine Is.of TP Try.func3 rfl rfl (Nat.le_of_ble_eq_true rfl) fun st => Pw.of TP [15] ?_
  conv => whnf
  refine new_is.call ?_
  conv => whnf
  have hend : Does Try.prog 12 [] st (fun r s => Fin (fun r' s => r' = vB true ∧ s = st) r s) := pworks_is.call (Fin.old rfl (.refl _))
  refine Pw.loop (σ := Nat × List Sl) (fun x => [(6, vI .i64 (x.1 : Int)), (5, .c (pgC x.2)), (0, .c (.sl 3 (l.map eAct))), (1, .c (.sl 1 (byl d)))]) (fun _ => st) (fun x => Ok x.2 ∧ x.1 ≤ l.length ∧ x.1 ≤ 60) (fun x => 60 - x.1) ⟨(0, []), .mk ⟨rfl, rfl, rfl, rfl, trivial⟩ (.refl _), ok_nil, Nat.zero_le _, Nat.zero_le _⟩ ?_
  rintro ⟨i, L⟩ ⟨hO, hi1, hi2⟩
  dsimp only at hO hi1 hi2 ⊢
  refine Pw.of TP [] ?_
  conv => whnf
  refine ⟨fun h => ?_, fun h => ?_⟩ <;> conv => whnf
  case' refine_1 =>
    refine ⟨fun h60 => ?_, fun h60 => ?_⟩ <;> conv => whnf
  case' refine_1.refine_1 =>
    have hi : i < l.length := by omega
    have h60x : i < 60 := by omega
    have key : ∀ F : List AC → Prop, F (eAct l[i]) → 0 ≤ (i : Int) ∧ (i : Int) < ((l.map eAct).length : Nat) ∧ ∃ r, (l.map eAct)[(i : Int).toNat]? = some r ∧ F r := fun F hF => ixm hi hF
    generalize l[i] = a at key
    refine key _ ?_
    conv => whnf
    refine (long_is a).callB fun b hb => ?_
    rcases b with _ | _
    rotate_left
    · conv => whnf
      refine hend.mono fun r s h => ?_
      conv => whnf
      exact h
    conv => whnf
    have ha : a.data.length ≤ 600 := by have := of_decide_eq_false hb; omega
    have hnext : ∀ M, M = rmL L a → Ok M := fun M e => e ▸ rmL_ok hO a
    have hgo : ∀ M : List Sl, Ok M → ∀ env : Env, EVe env [(6, vI .i64 (IntKind.i64.wrap ((i : Int) + 1))), (5, .c (pgC M)), (0, .c (.sl 3 (l.map eAct))), (1, .c (.sl 1 (byl d)))] → ∃ y : Nat × List Sl, Vw env st [(6, vI .i64 (y.1 : Int)), (5, .c (pgC y.2)), (0, .c (.sl 3 (l.map eAct))), (1, .c (.sl 1 (byl d)))] st ∧ (Ok y.2 ∧ y.1 ≤ l.length ∧ y.1 ≤ 60) ∧ 60 - y.1 < 60 - i := fun M hM env he => by
      rw [wrap_nat (n := 60) (by omega) (by decide)] at he
      exact ⟨(i + 1, M), .mk he (.refl _), ⟨hM, hi, h60x⟩, by dsimp only; omega⟩
    refine key _ ?_
    conv => whnf
    have eact : rmL L a = if a.op = 0 then (if (putS L a.data).2.2 = 0 then (putS L a.data).1 else L) else if a.op = 2 then (if (dropS L a.slot).2 = 0 then (dropS L a.slot).1 else L) else L := rfl
    have hput := put_is hO (d := a.data) (by omega)
    have hdrop := drop_is hO a.slot
    have kput := putS_ok hO a.data
    have kdrop := dropS_ok hO a.slot
    have kpg : ∀ {M : List Sl}, Ok M → 0 < ((byl (pg M)).length : Int) := fun h => by rw [byl_length, pg_length h.fit]; decide
    refine ⟨fun h0 => ?_, fun h0 => ?_⟩ <;> conv => whnf
    · refine key _ ?_
      conv => whnf
      refine hput.call ?_
      generalize putS L a.data = P at kput
      obtain ⟨pl, pk, pe⟩ := P
      rcases pe with _ | pe
      · conv => whnf
        refine ⟨fun _ => ?_, fun h => absurd (kpg (kput rfl)) h⟩
        conv => whnf
        exact hgo pl (kput rfl) _ ⟨rfl, rfl, rfl, rfl, trivial⟩
      · conv => whnf
        refine ⟨fun h => absurd h (by decide), fun _ => ?_⟩
        conv => whnf
        exact hgo L hO _ ⟨rfl, rfl, rfl, rfl, trivial⟩
    refine ⟨fun h2 => ?_, fun h2 => ?_⟩ <;> conv => whnf
    · refine key _ ?_
      conv => whnf
      refine hdrop.call ?_
      generalize dropS L a.slot = D at kdrop
      obtain ⟨dl, de⟩ := D
      rcases de with _ | de
      · conv => whnf
        refine ⟨fun _ => ?_, fun h => absurd (kpg (kdrop rfl)) h⟩
        conv => whnf
        exact hgo dl (kdrop rfl) _ ⟨rfl, rfl, rfl, rfl, trivial⟩
      · conv => whnf
        refine ⟨fun h => absurd h (by decide), fun _ => ?_⟩
        conv => whnf
        exact hgo L hO _ ⟨rfl, rfl, rfl, rfl, trivial⟩
    · refine ⟨fun h => absurd h (by decide), fun _ => ?_⟩
      conv => whnf
      exact hgo L hO _ ⟨rfl, rfl, rfl, rfl, trivial⟩
  all_goals
    refine Pw.vw (env' := [(5, .c (pgC L)), (1, .c (.sl 1 (byl d)))]) (st' := st) ?_ (Pw.of TP [24] ?_)
    · exact .mk ⟨rfl, rfl, trivial⟩ (.refl _)
    conv => whnf
    rw [hbl]
    refine ⟨fun hlong => ?_, fun hlong => ?_⟩ <;> conv => whnf
    · have hput := put_is hO (d := d) (by unfold maxLen at hd; omega)
      have e3 : putS L d = ([], 0, 3) := by unfold putS; rw [if_pos (by omega)]
      rw [e3] at hput
      refine hput.call ?_
      conv => whnf
      refine ⟨fun _ => ?_, fun h => absurd rfl h⟩
      conv => whnf
      refine pworks_is.call ?_
      conv => whnf
      exact Fin.old rfl (.refl _)
    have hds : d.length ≤ 255 := by omega
    refine (slots_is hO).call ?_
    have hsl := slotL_le L 0
    have hLl := hO.len
    have hfl : firstE L = L.length → ∀ k (hk : k < (slotL 0 L).length), (slotL 0 L)[k] = 0 + k := fun e => slotL_full e
    have hgp : firstE L < L.length → ∃ k, ∃ hk : k < (slotL 0 L).length, (slotL 0 L)[k] ≠ 0 + k := fun e => slotL_gap e hO.last
    have hfe := firstE_le L
    generalize slotL 0 L = V at hsl hfl hgp
    have hvl : ((nums V).length : Int) = (V.length : Nat) := by simp [nums]
    conv => whnf
    refine Pw.rng (τ := Bool) 13 V.length (by unfold Big; omega) [1, 5, 11] (fun b => [(12, vB b)]) (fun i b => b = true ↔ ∃ k, ∃ hk : k < V.length, k < i ∧ V[k] ≠ k) false rfl ⟨rfl, trivial⟩ ⟨fun h => (by cases h), fun ⟨k, _, h, _⟩ => absurd h (Nat.not_lt_zero k)⟩ fun j b hj hb => Pw.of TP [24] ?_
    conv => whnf
    refine ⟨fun h => ?_, fun h => ?_⟩ <;> conv => whnf
    · have hj' : j < V.length := by omega
      have hstep : ∀ b' : Bool, (b' = true ↔ (b = true ∨ V[j] ≠ j)) → (b' = true ↔ ∃ k, ∃ hk : k < V.length, k < j + 1 ∧ V[k] ≠ k) := fun b' e => by
        rw [e, hb]
        constructor
        · rintro (⟨k, h1, h2, h3⟩ | h)
          · exact ⟨k, h1, by omega, h3⟩
          · exact ⟨j, hj', by omega, h⟩
        · rintro ⟨k, h1, h2, h3⟩
          by_cases e : k = j
          · subst e; exact .inr h3
          · exact .inl ⟨k, h1, by omega, h3⟩
      cases b <;> conv => whnf
      · refine ixm (l := V) (f := fun n : Nat => [AC.v (.int .i64 (n : Int))]) hj' ?_
        conv => whnf
        refine ⟨fun h => ?_, fun h => ?_⟩ <;> conv => whnf
        · exact ⟨hj', rfl, ⟨rfl, rfl, rfl, trivial⟩, true, ⟨rfl, trivial⟩, .refl _, hstep true ⟨fun _ => .inr (by omega), fun _ => rfl⟩⟩
        · exact ⟨hj', rfl, ⟨rfl, rfl, rfl, trivial⟩, false, ⟨rfl, trivial⟩, .refl _, hstep false ⟨fun h => (by cases h), fun h9 => by rcases h9 with h9 | h9; cases h9; omega⟩⟩
      · exact ⟨hj', rfl, ⟨rfl, rfl, rfl, trivial⟩, true, ⟨rfl, trivial⟩, .refl _, hstep true ⟨fun _ => .inl rfl, fun _ => rfl⟩⟩
    have hjl : j = V.length := by omega
    subst hjl
    have hgap : b = true ↔ firstE L < L.length := by
      rw [hb]
      constructor
      · rintro ⟨k, h1, h2, h3⟩
        by_cases e : firstE L = L.length
        · have := hfl e k h1; omega
        · omega
      · intro e
        obtain ⟨k, h1, h2⟩ := hgp e
        exact ⟨k, h1, h1, by omega⟩
    clear hb hfl hgp
    have hnd := need_putL L d
    have hput := put_is hO (d := d) (by omega)
    have kput := fun h => ok_putL (l := L) hO (d := d) hds h
    have eput : putS L d = if 512 < need (putL L d) then ([], 0, 5) else (putL L d, firstE L, 0) := by unfold putS; rw [if_neg (by omega)]
    rw [eput] at hput
    have hf := hO.fit
    cases b
    · have hfe2 : firstE L = L.length := by
        have := fun h => hgap.2 h
        by_cases e : firstE L < L.length
        · exact absurd (this e) (by decide)
        · omega
      rw [if_pos hfe2] at hnd
      have hw14 : IntKind.i64.wrap (((byl d).length : Int) + 2) = ((d.length + 2 : Nat) : Int) := by rw [hbl, wrap_id (by omega) (by omega)]; omega
      refine Pw.of TP [] ?_
      conv => whnf
      refine hput.call ?_
      by_cases hbad : 512 < need (putL L d)
      · rw [if_pos hbad]
        conv => whnf
        refine (room_top hO).call ?_
        conv => whnf
        rw [hw14]
        refine ⟨fun _ => ?_, fun h => absurd (show ((512 - need L : Nat) : Int) < ((d.length + 2 : Nat) : Int) by omega) h⟩
        conv => whnf
        refine ⟨fun _ => ?_, fun h => absurd rfl h⟩
        conv => whnf
        refine pworks_is.call ?_
        conv => whnf
        exact Fin.old rfl (.refl _)
      · rw [if_neg hbad]
        have hO2 := kput (by omega)
        conv => whnf
        refine (room_top hO).call ?_
        conv => whnf
        rw [hw14]
        refine ⟨fun h => absurd h (by omega), fun _ => ?_⟩
        conv => whnf
        refine ⟨fun _ => ?_, fun h => absurd rfl h⟩
        conv => whnf
        refine (room_top hO2).call ?_
        conv => whnf
        refine (room_top hO).call ?_
        conv => whnf
        have hw15 : IntKind.i64.wrap (((512 - need L : Nat) : Int) - ((d.length + 2 : Nat) : Int)) = ((512 - need (putL L d) : Nat) : Int) := by rw [wrap_id (by omega) (by omega)]; omega
        rw [hw15]
        refine ⟨fun _ => ?_, fun h => absurd rfl h⟩
        conv => whnf
        refine pworks_is.call ?_
        conv => whnf
        exact Fin.old rfl (.refl _)
    · have hfe2 : ¬ firstE L = L.length := by have := hgap.1 rfl; omega
      rw [if_neg hfe2] at hnd
      refine Pw.of TP [] ?_
      conv => whnf
      refine hput.call ?_
      by_cases hbad : 512 < need (putL L d)
      · rw [if_pos hbad]
        conv => whnf
        refine (room_top hO).call ?_
        conv => whnf
        refine ⟨fun _ => ?_, fun h => absurd (show ((512 - need L : Nat) : Int) < ((byl d).length : Int) by omega) h⟩
        conv => whnf
        refine ⟨fun _ => ?_, fun h => absurd rfl h⟩
        conv => whnf
        refine pworks_is.call ?_
        conv => whnf
        exact Fin.old rfl (.refl _)
      · rw [if_neg hbad]
        have hO2 := kput (by omega)
        conv => whnf
        refine (room_top hO).call ?_
        conv => whnf
        refine ⟨fun h => absurd h (by omega), fun _ => ?_⟩
        conv => whnf
        refine ⟨fun _ => ?_, fun h => absurd rfl h⟩
        conv => whnf
        refine (room_top hO2).call ?_
        conv => whnf
        refine (room_top hO).call ?_
        conv => whnf
        have hw15 : IntKind.i64.wrap (((512 - need L : Nat) : Int) - ((byl d).length : Int)) = ((512 - need (putL L d) : Nat) : Int) := by rw [hbl, wrap_id (by omega) (by omega)]; omega
        rw [hw15]
        refine ⟨fun _ => ?_, fun h => absurd rfl h⟩
        conv => whnf
        refine pworks_is.call ?_
        conv => whnf
        exact Fin.old rfl (.refl _)
def wfBy (d : By) : Prop := d.length ≤ maxLen
theorem pageRoom_law (l : List Act) (d : By) (hw : wfActs l) (hd : wfBy d) : Is Try.prog 3 [.c (.sl 3 (l.map eAct)), .c (.sl 1 (byl d))] (vB true) := pageRoom_law0 l d hw hd
end Go.Proofs.Ytfkkajibaeppbaa.D
