/- What the functions of types, and those that they ask, come to. -/
import Derived.Test.YtbmgenifdlgbmaaQ6
import Derived.Test.YtbmgenifdlgbmaaTypP
import Derived.Test.YtbmgenifdlgbmaaLexE
namespace Go.Proofs.Ytbmgenifdlgbmaa.TypE
set_option linter.unusedVariables false
set_option linter.unusedSimpArgs false
open Go Go.RowKit Go.Proofs.Ytbmgenifdlgbmaa.Q Go.Proofs.YtbmgenifdlgbmaaW.PrintWords Go.Proofs.Ytbmgenifdlgbmaa.Aux Go.Proofs.Ytbmgenifdlgbmaa.By

theorem ev_to {α : Type} {g : Nat → Option α} {a b : α} (h : Ev g a) (e : a = b) : Ev g b := e ▸ h
theorem rd_26 (l : List S26) (i : Nat) (h : i < l.length) : rd_T26 l (i : Int) = l[i] := by
  simp [rd_T26, List.getD_eq_getElem?_getD, h]
theorem rd_int (l : List Int) (i : Nat) (h : i < l.length) : rd l (i : Int) = l[i] := by
  simp [rd, List.getD_eq_getElem?_getD, h]
/-- a tree whose parts are small -/
inductive Sm : S26 → Prop
  | mk (x : S26) (h1 : x.f4.length ≤ 12) (h2 : x.f3.size ≤ 100) (h3 : x.f2.f2.size ≤ 100) (h4 : ∀ y ∈ x.f4, Sm y) : Sm x
abbrev cnt (k : Nat) (x : S26) (n : Int) := registrarref10_count.f k x.f0 x.f1 x.f2.f0 x.f2.f1 x.f2.f2 x.f3 x.f4 n
theorem count_l (x : S26) (hx : x.f4.length ≤ 12) (N : Nat) (ih : ∀ (n : Nat) (y : S26), n < N → ∃ r : Int × Bool, Ev (fun k => cnt k y (n : Int)) r ∧ (r.2 = true → Sm y ∧ 0 ≤ r.1 ∧ r.1 < (n : Int))) : ∀ (m i b : Nat), i + m = x.f4.length → b < N → ∃ r : Int × Bool, Ev (fun k => registrarref10_count.l0 k (b : Int) (i : Int) x.f0 x.f1 x.f2.f0 x.f2.f1 x.f2.f2 x.f3 x.f4) r ∧ (r.2 = true → (∀ y ∈ x.f4.drop i, Sm y) ∧ 0 ≤ r.1 ∧ r.1 ≤ (b : Int))
  | m, i, b, hi, hb => by
    cases m with
    | zero =>
      refine ⟨((b : Int), true), ?_, fun _ => ⟨?_, by simp only; omega, by simp only; omega⟩⟩
      · refine Ev.step (fun k => registrarref10_count.l0.eq_2 ..) ?_
        exact ev_neg (by omega) (Ev.now _)
      · rw [List.drop_eq_nil_of_le (by omega)]
        intro y hy
        cases hy
    | succ m =>
      have hlt : i < x.f4.length := by omega
      have hd := List.drop_eq_getElem_cons hlt
      obtain ⟨r, h1, h2⟩ := ih b x.f4[i] hb
      by_cases hr : r.2 = true
      · obtain ⟨g1, g2, g3⟩ := h2 hr
        obtain ⟨b2, hb2⟩ := Int.eq_ofNat_of_zero_le g2
        obtain ⟨r', h3, h4⟩ := count_l x hx N ih m (i + 1) b2 (by omega) (by omega)
        refine ⟨r', ?_, fun h => ?_⟩
        · refine Ev.step (fun k => registrarref10_count.l0.eq_2 ..) ?_
          refine ev_pos (by omega) ?_
          refine ev_pos (by omega) ?_
          rw [rd_26 _ i hlt]
          refine Ev.bind h1 ?_
          refine ev_pos hr ?_
          rw [hb2, show wrap64 ((i : Int) + 1) = ((i + 1 : Nat) : Int) by rw [wrap_in (by omega) (by omega)]; omega]
          exact h3
        · obtain ⟨k1, k2, k3⟩ := h4 h
          refine ⟨?_, k2, by omega⟩
          rw [hd]
          intro y hy
          rcases List.mem_cons.1 hy with rfl | hy
          · exact g1
          · exact k1 y hy
      · refine ⟨(0, false), ?_, fun h => absurd h (by simp)⟩
        refine Ev.step (fun k => registrarref10_count.l0.eq_2 ..) ?_
        refine ev_pos (by omega) ?_
        refine ev_pos (by omega) ?_
        rw [rd_26 _ i hlt]
        refine Ev.bind h1 ?_
        exact ev_neg hr (Ev.now _)
theorem count_any : ∀ (n : Nat) (x : S26), n ≤ 1000 → ∃ r : Int × Bool, Ev (fun k => cnt k x (n : Int)) r ∧ (r.2 = true → Sm x ∧ 0 ≤ r.1 ∧ r.1 < (n : Int)) := by
  intro n
  induction n using Nat.strongRecOn with
  | _ n ih =>
  intro x hn
  have bad : Ev (fun k => registrarref10_count.j0 k (n : Int) true x.f0 x.f1 x.f2.f0 x.f2.f1 x.f2.f2 x.f3 x.f4) (0, false) := by
    refine Ev.step (fun k => registrarref10_count.j0.eq_2 ..) ?_
    exact ev_pos rfl (Ev.now _)
  have no : ∀ r : Int × Bool, r = (0, false) → r.2 = true → Sm x ∧ 0 ≤ r.1 ∧ r.1 < (n : Int) := by
    intro r hr h
    rw [hr] at h
    exact absurd h (by simp)
  by_cases h0 : n = 0
  · refine ⟨(0, false), ?_, no _ rfl⟩
    refine Ev.step (fun k => registrarref10_count.f.eq_2 ..) ?_
    exact ev_pos (by omega) bad
  · by_cases h1 : x.f4.length > 12
    · refine ⟨(0, false), ?_, no _ rfl⟩
      refine Ev.step (fun k => registrarref10_count.f.eq_2 ..) ?_
      refine ev_neg (by omega) ?_
      exact ev_pos (by omega) bad
    · by_cases h2 : x.f3.size > 100
      · refine ⟨(0, false), ?_, no _ rfl⟩
        refine Ev.step (fun k => registrarref10_count.f.eq_2 ..) ?_
        refine ev_neg (by omega) ?_
        refine ev_neg (by omega) ?_
        exact ev_pos (by omega) bad
      · by_cases h3 : x.f2.f2.size > 100
        · refine ⟨(0, false), ?_, no _ rfl⟩
          refine Ev.step (fun k => registrarref10_count.f.eq_2 ..) ?_
          refine ev_neg (by omega) ?_
          refine ev_neg (by omega) ?_
          refine ev_neg (by omega) ?_
          rw [show decide ((x.f2.f2.size : Int) > 100) = true by simp; omega]
          exact bad
        · obtain ⟨r, g1, g2⟩ := count_l x (by omega) n (fun m y hm => ih m hm y (by omega)) x.f4.length 0 (n - 1) (by omega) (by omega)
          refine ⟨r, ?_, fun h => ?_⟩
          · refine Ev.step (fun k => registrarref10_count.f.eq_2 ..) ?_
            refine ev_neg (by omega) ?_
            refine ev_neg (by omega) ?_
            refine ev_neg (by omega) ?_
            rw [show decide ((x.f2.f2.size : Int) > 100) = false by simp; omega]
            refine Ev.step (fun k => registrarref10_count.j0.eq_2 ..) ?_
            refine ev_neg (by decide) ?_
            rw [show wrap64 ((n : Int) - 1) = ((n - 1 : Nat) : Int) by rw [wrap_in (by omega) (by omega)]; omega]
            exact g1
          · obtain ⟨k1, k2, k3⟩ := g2 h
            rw [List.drop_zero] at k1
            exact ⟨Sm.mk x (by omega) (by omega) (by omega) k1, k2, by omega⟩
theorem few_any (x : S26) : ∃ b, Ev (fun k => registrarref10_Few.f k x.f0 x.f1 x.f2.f0 x.f2.f1 x.f2.f2 x.f3 x.f4 60) b ∧ (b = true → Sm x) := by
  obtain ⟨r, h1, h2⟩ := count_any 60 x (by omega)
  refine ⟨r.2, ?_, fun h => (h2 h).1⟩
  unfold registrarref10_Few.f
  exact Ev.bind h1 (Ev.now _)
theorem bare_any (a0 a1 a2 a3 : Int) (a4 a5 : ByteArray) (l : List S26) (b1 b2 b3 : Bool) : ∃ t, expr_bare.f a0 a1 a2 a3 a4 a5 l b1 b2 b3 = some t := by
  unfold expr_bare.f
  repeat' split
  all_goals exact ⟨_, rfl⟩
theorem call_any (a0 : ByteArray) (n : Int) : ∃ t, expr_call.f a0 n = some t := by
  unfold expr_call.f
  repeat' split
  all_goals exact ⟨_, rfl⟩
theorem plain_any (s : ByteArray) (hs : s.size ≤ 1000) : ∀ (m n : Nat), n + m = s.size → ∃ t, Ev (fun k => value_plain.l0 k s s.size n) t
  | m, n, hn => by
    cases m with
    | zero =>
      refine ⟨true, ?_⟩
      refine Ev.step (fun k => value_plain.l0.eq_2 ..) ?_
      exact ev_neg (by omega) (Ev.now _)
    | succ m =>
      obtain ⟨t, ht⟩ := plain_any s hs m (n + 1) (by omega)
      have hw : wrap64 ((n : Int) + 1) = ((n + 1 : Nat) : Int) := by rw [wrap_in (by omega) (by omega)]; omega
      by_cases h1 : bt s (n : Int) < 32
      · refine ⟨false, ?_⟩
        refine Ev.step (fun k => value_plain.l0.eq_2 ..) ?_
        refine ev_pos (by omega) ?_
        refine ev_pos (by omega) ?_
        refine ev_pos (by omega) ?_
        exact ev_pos h1 (Ev.now _)
      · by_cases h2 : bt s (n : Int) > 126
        · refine ⟨false, ?_⟩
          refine Ev.step (fun k => value_plain.l0.eq_2 ..) ?_
          refine ev_pos (by omega) ?_
          refine ev_pos (by omega) ?_
          refine ev_pos (by omega) ?_
          refine ev_neg h1 ?_
          exact ev_pos h2 (Ev.now _)
        · refine ⟨t, ?_⟩
          refine Ev.step (fun k => value_plain.l0.eq_2 ..) ?_
          refine ev_pos (by omega) ?_
          refine ev_pos (by omega) ?_
          refine ev_pos (by omega) ?_
          refine ev_neg h1 ?_
          refine ev_neg h2 ?_
          rw [hw]
          exact ht
theorem ev_if {α : Type} {c : Prop} [Decidable c] {f g : Nat → Option α} (h : c → ∃ r, Ev f r) (k : ¬ c → ∃ r, Ev g r) : ∃ r, Ev (fun n => if c then f n else g n) r := by
  by_cases x : c
  · obtain ⟨r, hr⟩ := h x
    exact ⟨r, ev_pos x hr⟩
  · obtain ⟨r, hr⟩ := k x
    exact ⟨r, ev_neg x hr⟩
theorem ev_any {α β : Type} {x : Option α} {f : Nat → α → Option β} (h : ∃ a, x = some a) (k : ∀ a, ∃ r, Ev (fun n => f n a) r) : ∃ r, Ev (fun n => x.bind (f n)) r := by
  obtain ⟨a, ha⟩ := h
  obtain ⟨r, hr⟩ := k a
  exact ⟨r, ev_one ha hr⟩
theorem ev_bind {α β : Type} {g : Nat → Option α} {f : Nat → α → Option β} (h : ∃ a, Ev g a) (k : ∀ a, ∃ r, Ev (fun n => f n a) r) : ∃ r, Ev (fun n => (g n).bind (f n)) r := by
  obtain ⟨a, ha⟩ := h
  obtain ⟨r, hr⟩ := k a
  exact ⟨r, Ev.bind ha hr⟩
theorem ev_now {α : Type} (a : α) : ∃ r, Ev (fun _ => some a) r := ⟨a, Ev.now a⟩
theorem val_any (a b : Int) (s : ByteArray) (hs : s.size ≤ 1000) : ∃ t, Ev (fun k => value_Right.f k a b s) t := by
  unfold value_Right.f
  refine ev_if (fun _ => ev_now _) fun _ => ?_
  refine ev_if (fun _ => ev_now _) fun _ => ?_
  refine ev_if (fun _ => ev_if (fun _ => ev_if (fun _ => ev_now _) fun _ => ev_now _) fun _ => ev_now _) fun _ => ?_
  refine ev_if (fun _ => ev_if (fun _ => ev_if (fun _ => ?_) fun _ => ev_now _) fun _ => ev_now _) fun _ => ev_now _
  exact ev_bind (plain_any s hs s.size 0 (by omega)) (fun _ => ev_now _)
theorem name_any (s : ByteArray) (hs : s.size ≤ 1000) : ∃ t, Ev (fun k => lex_IsName.f k s) t := by
  unfold lex_IsName.f
  refine ev_bind ?_ (fun _ => ev_now _)
  unfold lex_Right.f
  refine ev_if (fun _ => ev_now _) fun _ => ?_
  by_cases h0 : s.toList = ([] : List UInt8)
  · exact ⟨_, ev_pos h0 (Ev.now _)⟩
  · have hB : B s ≠ [] := fun h => h0 ((toList_nil_iff s).2 h)
    have h1 := Lex.one_f s hs hB
    obtain ⟨r, hr⟩ : ∃ r, Ev (fun k => (lex_one.f k s).bind fun bt132 => (if bt132.2 = (s.size : Int) then (some (bt132.1 == 1)) else (some false))) r := ev_bind ⟨_, h1⟩ (fun _ => ev_if (fun _ => ev_now _) fun _ => ev_now _)
    exact ⟨r, ev_neg h0 hr⟩
end Go.Proofs.Ytbmgenifdlgbmaa.TypE
