/- Words and contracts: a plain machine over the model, and what the functions that a law reaches come to, each for every input that its theorem names. -/
import Derived.Test.YtfkkajibaeppbaaK3
import Derived.Test.YtfkkajibaeppbaaV3
namespace Go.Proofs.Ytfkkajibaeppbaa.D
set_option linter.unusedVariables false
set_option linter.unusedSimpArgs false
open Go Go.Proofs.Ytfkkajibaeppbaa.D.Pm
set_option maxRecDepth 4000
abbrev Pgs := List (List Sl)
def nilA : AC := .v (.slice none 0 0)
/-- a list in memory -/
inductive LAt (s : Sto) (rows : List (List AC)) : AC → Prop where
  | nil : rows = [] → LAt s rows (.v (.slice none 0 0))
  | arr (id : Nat) (more : List (List AC)) (n : Nat) : n = rows.length → s id = some (.ar 1 (rows ++ more)) → LAt s rows (.arr id 0 n)
def ro (enc : List Sl → AC) (Ls : Pgs) : List (List AC) := Ls.map fun L => [enc L]
/-- what a heap has of its own -/
def ow (hid : Nat) (x : AC) (i : Nat) : Prop := i = hid ∨ ∃ l, x = .arr i 0 l
structure HAt (s : Sto) (hid : Nat) (Ls : Pgs) (x : AC) : Prop where
  mk ::
  bx : s hid = some (.bx [x, .v (.bool true)])
  li : LAt s (ro pgC Ls) x
structure RAt (s : Sto) (hid : Nat) (Ls : Pgs) (x : AC) : Prop where
  mk ::
  bx : s hid = some (.bx [x])
  li : LAt s (ro eSls Ls) x
/-- the other objects are as they were -/
def Chg (s s' : Sto) (A B : Nat → Prop) : Prop := ∀ i o, s i = some o → ¬ A i → s' i = some o ∧ ¬ B i
def OkH (Ls : Pgs) : Prop := (∀ L ∈ Ls, Ok L) ∧ Ls.length ≤ 64
theorem LAt.mono {s s' : Sto} {rows : List (List AC)} {x : AC} (h : LAt s rows x) (k : ∀ i l o, x = .arr i 0 l → s i = some o → s' i = some o) : LAt s' rows x := by
  cases h with
  | nil h => exact .nil h
  | arr id more n h1 h2 => exact .arr id more n h1 (k id n _ rfl h2)
theorem HAt.keep {s s' : Sto} {hid : Nat} {Ls : Pgs} {x : AC} (h : HAt s hid Ls x) {A B : Nat → Prop} (c : Chg s s' A B) (d : ∀ i, ow hid x i → ¬ A i) : HAt s' hid Ls x ∧ ∀ i o, s i = some o → ow hid x i → ¬ B i :=
  ⟨⟨(c _ _ h.bx (d _ (.inl rfl))).1, h.li.mono fun i l o e ho => (c _ _ ho (d _ (.inr ⟨l, e⟩))).1⟩, fun i o ho hi => (c _ _ ho (d _ hi)).2⟩
theorem RAt.keep {s s' : Sto} {hid : Nat} {Ls : Pgs} {x : AC} (h : RAt s hid Ls x) {A B : Nat → Prop} (c : Chg s s' A B) (d : ∀ i, ow hid x i → ¬ A i) : RAt s' hid Ls x ∧ ∀ i o, s i = some o → ow hid x i → ¬ B i :=
  ⟨⟨(c _ _ h.bx (d _ (.inl rfl))).1, h.li.mono fun i l o e ho => (c _ _ ho (d _ (.inr ⟨l, e⟩))).1⟩, fun i o ho hi => (c _ _ ho (d _ hi)).2⟩
theorem hnew_does (st : Sto) : Does Try.prog 26 [] st fun r s => ∃ hid, r = .c (.ptr hid 0) ∧ st hid = none ∧ HAt s hid [] (.v (.slice none 0 0)) ∧ Le st s := by
  refine Does.of TP Try.func26 rfl rfl (Nat.le_of_ble_eq_true rfl) (Pw.of TP [1000002] ?_)
  conv => whnf
  intro hid h0
  conv => whnf
  exact Fin.same rfl (.refl _) ⟨hid, rfl, h0, ⟨upd_same _ _ _, .nil rfl⟩, .upd h0⟩
theorem dead_no {st : Sto} {hid : Nat} {Ls : Pgs} {x : AC} (h : HAt st hid Ls x) : Does Try.prog 55 [.c (.ptr hid 0)] st fun r s => r = vB false ∧ s = st := by
  refine Does.of TP Try.func55 rfl rfl (Nat.le_of_ble_eq_true rfl) (Pw.of TP [] ?_)
  conv => whnf
  refine ⟨_, h.bx, ?_⟩
  conv => whnf
  exact Fin.pure
theorem dead_nil : Is Try.prog 55 [.c (.v (.pointer none))] (vB true) := by
  refine Is.of TP Try.func55 rfl rfl (Nat.le_of_ble_eq_true rfl) fun st => Pw.of TP [] ?_
  conv => whnf
  exact Fin.pure
theorem dead_un {st : Sto} {hid : Nat} {x : AC} (h : st hid = some (.bx [x, .v (.bool false)])) : Does Try.prog 55 [.c (.ptr hid 0)] st fun r s => r = vB true ∧ s = st := by
  refine Does.of TP Try.func55 rfl rfl (Nat.le_of_ble_eq_true rfl) (Pw.of TP [] ?_)
  conv => whnf
  refine ⟨_, h, ?_⟩
  conv => whnf
  exact Fin.pure
def fitK : Pgs → By → Nat
  | [], _ => 0
  | L :: r, d => if need (putL L d) ≤ 512 then 0 else fitK r d + 1
theorem fitK_le : ∀ (Ls : Pgs) (d : By), fitK Ls d ≤ Ls.length
  | [], _ => Nat.le_refl _
  | L :: r, d => by unfold fitK; split; omega; have := fitK_le r d; simp; omega
theorem fitK_at : ∀ {Ls : Pgs} {d : By} {n : Nat} (hn : n < Ls.length), n ≤ fitK Ls d → (need (putL Ls[n] d) ≤ 512 → fitK Ls d = n) ∧ (¬ need (putL Ls[n] d) ≤ 512 → n + 1 ≤ fitK Ls d)
  | L :: r, d, 0, hn, h => by
    constructor <;> intro h2
    · have h2 : need (putL L d) ≤ 512 := h2
      unfold fitK; rw [if_pos h2]
    · have h2 : ¬ need (putL L d) ≤ 512 := h2
      unfold fitK; rw [if_neg h2]; omega
  | L :: r, d, n + 1, hn, h => by
    have hf : ¬ need (putL L d) ≤ 512 := fun h2 => by unfold fitK at h; rw [if_pos h2] at h; omega
    have hfe : fitK (L :: r) d = fitK r d + 1 := by rw [fitK, if_neg hf]
    have := fitK_at (Ls := r) (d := d) (n := n) (by simpa using hn) (by omega)
    rw [hfe]
    exact ⟨fun h2 => by have := this.1 h2; omega, fun h2 => by have := this.2 h2; omega⟩
def putH (Ls : Pgs) (d : By) : Pgs × (Nat × Nat) × Nat :=
  if 255 < d.length then (Ls, (0, 0), 3)
  else if h : fitK Ls d < Ls.length then (Ls.set (fitK Ls d) (putL Ls[fitK Ls d] d), (fitK Ls d, firstE Ls[fitK Ls d]), 0)
  else if Ls.length = 64 then (Ls, (0, 0), 5)
  else (Ls ++ [putL [] d], (Ls.length, 0), 0)
def rid (p : Nat × Nat) : List AC := [.v (.int .i64 (p.1 : Int)), .v (.int .i64 (p.2 : Int))]
theorem ro_length {enc : List Sl → AC} (Ls : Pgs) : (ro enc Ls).length = Ls.length := by simp [ro]
theorem ro_at {enc : List Sl → AC} {Ls : Pgs} {more : List (List AC)} {k q : Nat} (hk : k < Ls.length) (hq : q = k) : (ro enc Ls ++ more)[q]? = some [enc Ls[k]] := by
  subst hq
  rw [List.getElem?_append_left (by rw [ro_length]; exact hk)]
  unfold ro
  rw [List.getElem?_map, List.getElem?_eq_getElem hk]
  rfl
theorem ro_set {enc : List Sl → AC} {Ls : Pgs} {more : List (List AC)} {k q : Nat} {L : List Sl} (hk : k < Ls.length) (hq : q = k) : (ro enc Ls ++ more).set q [enc L] = ro enc (Ls.set k L) ++ more := by
  subst hq
  rw [List.set_append_left _ _ (by rw [ro_length]; exact hk)]
  unfold ro
  rw [List.map_set]
end Go.Proofs.Ytfkkajibaeppbaa.D
namespace Go.Proofs.Ytfkkajibaeppbaa.D
set_option linter.unusedVariables false
set_option linter.unusedSimpArgs false
open Go Go.Proofs.Ytfkkajibaeppbaa.D.Pm
set_option maxRecDepth 4000
theorem Ok.one {d : By} (h : d.length ≤ 255) : need (putL [] d) ≤ 512 := by
  unfold putL need
  simp [firstE, dsum, dz]
  omega
theorem Chg.refl {s : Sto} {A : Nat → Prop} : Chg s s A A := fun i o h1 h2 => ⟨h1, h2⟩
theorem leSame {a b : Sto} {i : Nat} {o : Ob} (h : Le a b) : Le (upd a i o) (upd b i o) := fun j p hp => by
  unfold upd at hp ⊢
  split at hp
  · rename_i e; rw [if_pos e]; exact hp
  · rename_i e; rw [if_neg e]; exact h j p hp
theorem HAt.set {s : Sto} {hid pid : Nat} {Ls : Pgs} {more : List (List AC)} {n k : Nat} {L : List Sl} (h : HAt s hid Ls (.arr pid 0 n)) (h1 : n = (ro pgC Ls).length) (hk : k < Ls.length) : HAt (upd s pid (.ar 1 (ro pgC (Ls.set k L) ++ more))) hid (Ls.set k L) (.arr pid 0 n) ∧ Chg s (upd s pid (.ar 1 (ro pgC (Ls.set k L) ++ more))) (ow hid (.arr pid 0 n)) (ow hid (.arr pid 0 n)) := by
  have hne : hid ≠ pid := by
    cases h.li with
    | arr _ m _ a b => intro e; subst e; rw [h.bx] at b; cases b
  refine ⟨⟨by rw [upd_ne _ hne]; exact h.bx, .arr _ more _ (by rw [h1, ro_length, ro_length, List.length_set]) (upd_same _ _ _)⟩, fun i o hi hA => ⟨?_, hA⟩⟩
  rw [upd_ne _ (fun e => hA (.inr ⟨n, by rw [e]⟩))]
  exact hi
theorem stR {enc : List Sl → AC} {S : Sto} {pid q k : Nat} {Ls : Pgs} {more : List (List AC)} {L : List Sl} {c : AC} {F : Sto → Prop} (h2 : S pid = some (.ar 1 (ro enc Ls ++ more))) (hk : k < Ls.length) (hq : q = k) (hc : c = enc L) (K : F (upd S pid (.ar 1 (ro enc (Ls.set k L) ++ more)))) :
    ∃ sz rows r, S pid = some (.ar sz rows) ∧ rows[q]? = some r ∧ 0 + 1 ≤ r.length ∧ F (upd S pid (.ar sz (rows.set q (putAt r 0 [c])))) := by
  subst hq hc
  refine ⟨1, _, [enc Ls[q]], h2, ro_at hk rfl, Nat.le_refl 1, ?_⟩
  have e : (ro enc Ls ++ more).set q (putAt [enc Ls[q]] 0 [enc L]) = ro enc (Ls.set q L) ++ more := ro_set hk rfl
  rw [e]
  exact K
theorem app_arr {S : Sto} {z : TI} {pid n : Nat} {rows more : List (List AC)} {c : AC} {K : AV → Sto → Prop} (hz : z.size = 1) (hb : z.bytes ≤ 1000) (h2 : S pid = some (.ar 1 (rows ++ more))) (hn : n = rows.length) (hl : n ≤ 100000) (k : ∀ id', S id' = none → K (.c (.arr id' 0 (n + 1))) (upd (del S pid) id' (.ar 1 (rows ++ [[c]])))) : App S z (.arr pid 0 n) [[c]] K := by
  refine ⟨rfl, rows ++ more, by rw [hz]; exact h2, by rw [List.length_append]; omega, by unfold maxLen; simp; omega, ?_, fun id' hid => ?_⟩
  · have : (n + [[c]].length) * z.bytes ≤ 100001 * 1000 := Nat.mul_le_mul (by simp; omega) hb
    omega
  · rw [hz, hn, List.take_left' rfl]
    exact hn ▸ k id' hid
theorem app_nil {S : Sto} {z : TI} {c : AC} {K : AV → Sto → Prop} (hz : z.size = 1) (hb : z.bytes ≤ 1000) (k : ∀ id', S id' = none → K (.c (.arr id' 0 1)) (upd S id' (.ar 1 [[c]]))) : App S z (.v (.slice none 0 0)) [[c]] K := by
  refine ⟨by unfold maxLen; simp, by simp; omega, fun h => (by cases h), fun _ id' hid => ?_⟩
  rw [hz]
  exact k id' hid
theorem leDel {a b : Sto} {i : Nat} (h : Le a b) : Le (del a i) (del b i) := fun j p hp => by
  unfold del at hp ⊢
  split at hp
  · cases hp
  · rename_i e; rw [if_neg e]; exact h j p hp
theorem stX {S : Sto} {hid q : Nat} {x x' t : AC} {F : Sto → Prop} (hb : S hid = some (.bx [x, t])) (hq : q ≤ 2) (K : F (upd S hid (.bx [x', t]))) : ∃ cs, S hid = some (.bx cs) ∧ q ≤ cs.length ∧ F (upd S hid (.bx (putAt cs 0 [x']))) := ⟨_, hb, hq, K⟩
/-- a page more -/
theorem HAt.add {s : Sto} {hid pid id : Nat} {Ls : Pgs} {n : Nat} {L : List Sl} (h : HAt s hid Ls (.arr pid 0 n)) (h1 : n = Ls.length) (hn : s id = none) : HAt (upd (upd (del s pid) id (.ar 1 (ro pgC Ls ++ [[pgC L]]))) hid (.bx [.arr id 0 (n + 1), .v (.bool true)])) hid (Ls ++ [L]) (.arr id 0 (n + 1)) ∧ Chg s (upd (upd (del s pid) id (.ar 1 (ro pgC Ls ++ [[pgC L]]))) hid (.bx [.arr id 0 (n + 1), .v (.bool true)])) (ow hid (.arr pid 0 n)) (ow hid (.arr id 0 (n + 1))) := by
  have h2 : id ≠ hid := fun e => by subst e; rw [h.bx] at hn; cases hn
  refine ⟨⟨upd_same _ _ _, .arr _ [] _ (by rw [ro_length, List.length_append, h1]; rfl) (by rw [upd_ne _ h2, upd_same]; simp [ro])⟩, fun i o hi hA => ?_⟩
  have h3 : i ≠ hid := fun e => hA (.inl e)
  have h4 : i ≠ pid := fun e => hA (.inr ⟨n, by rw [e]⟩)
  have h5 : i ≠ id := fun e => by subst e; rw [hn] at hi; cases hi
  refine ⟨by rw [upd_ne _ h3, upd_ne _ h5]; unfold del; rw [if_neg h4]; exact hi, fun hB => ?_⟩
  rcases hB with e | ⟨l, e⟩
  · exact h3 e
  · cases e; exact h5 rfl
theorem HAt.one {s : Sto} {hid id : Nat} {L : List Sl} (h : HAt s hid [] (.v (.slice none 0 0))) (hn : s id = none) : HAt (upd (upd s id (.ar 1 [[pgC L]])) hid (.bx [.arr id 0 1, .v (.bool true)])) hid [L] (.arr id 0 1) ∧ Chg s (upd (upd s id (.ar 1 [[pgC L]])) hid (.bx [.arr id 0 1, .v (.bool true)])) (ow hid (.v (.slice none 0 0))) (ow hid (.arr id 0 1)) := by
  have h2 : id ≠ hid := fun e => by subst e; rw [h.bx] at hn; cases hn
  refine ⟨⟨upd_same _ _ _, .arr _ [] _ rfl (by rw [upd_ne _ h2, upd_same]; rfl)⟩, fun i o hi hA => ?_⟩
  have h3 : i ≠ hid := fun e => hA (.inl e)
  have h5 : i ≠ id := fun e => by subst e; rw [hn] at hi; cases hi
  refine ⟨by rw [upd_ne _ h3, upd_ne _ h5]; exact hi, fun hB => ?_⟩
  rcases hB with e | ⟨l, e⟩
  · exact h3 e
  · cases e; exact h5 rfl
theorem hput_does {st : Sto} {hid : Nat} {Ls : Pgs} {x : AC} (hH : HAt st hid Ls x) (hO : OkH Ls) {d : By} (hd : d.length ≤ 9223372036854775807) : Does Try.prog 36 [.c (.ptr hid 0), .c (.sl 1 (byl d))] st fun r s => r = .t [.g (rid (putH Ls d).2.1), vI .i64 ((putH Ls d).2.2 : Nat)] ∧ ∃ x', HAt s hid (putH Ls d).1 x' ∧ Chg st s (ow hid x) (ow hid x') := by
  refine Does.of TP Try.func36 rfl rfl (Nat.le_of_ble_eq_true rfl) (Pw.of TP [14] ?_)
  conv => whnf
  intro id4 h4
  have h40 : id4 ≠ hid := fun e => by subst e; rw [hH.bx] at h4; cases h4
  have hH2 : HAt (upd st id4 (.bx [.v (.int .i64 0), .v (.int .i64 0)])) hid Ls x := ⟨by rw [upd_ne _ (fun e => h40 e.symm)]; exact hH.bx, hH.li.mono fun i l o e ho => by rw [upd_ne _ (fun e => by subst e; rw [h4] at ho; cases ho)]; exact ho⟩
  conv => whnf
  refine (dead_no hH2).go ?_
  conv => whnf
  refine ⟨_, hH2.bx, ?_⟩
  conv => whnf
  have hli := hH2.li
  have hnew := hH2
  generalize hS : upd st id4 (.bx [.v (.int .i64 0), .v (.int .i64 0)]) = S at hH2 hli
  have hSle : Le st S := by rw [← hS]; exact .upd h4
  have h4S : S id4 = some (.bx [.v (.int .i64 0), .v (.int .i64 0)]) := by rw [← hS]; exact upd_same _ _ _
  cases hli with
  | nil h0 =>
    have hLs : Ls = [] := by
      cases Ls with
      | nil => rfl
      | cons a l => cases h0
    subst hLs
    conv => whnf
    refine Pw.rng (τ := Unit) 22 0 (by decide) [0, 1, 4, 20, 21] (fun _ => []) (fun k _ => True) () rfl trivial trivial fun k _ hk hf => Pw.of TP [] ?_
    conv => whnf
    refine ⟨fun hk1 => ?_, fun hk1 => ?_⟩ <;> conv => whnf
    · exfalso
      omega
    · skip
      have hput := put_is ok_nil (d := d) hd
      refine Pw.of TP [] ?_
      conv => whnf
      refine new_is.call ?_
      conv => whnf
      by_cases hlong : 255 < d.length
      · have e1 : putS [] d = ([], 0, 3) := by unfold putS; rw [if_pos hlong]
        have e2 : putH ([] : Pgs) d = (([] : Pgs), (0, 0), 3) := by unfold putH; rw [if_pos hlong]
        rw [e1] at hput
        rw [e2]
        refine hput.call ?_
        conv => whnf
        refine ⟨fun _ => ?_, fun h => absurd (show ¬ ((3 : Nat) : Int) = 0 by decide) h⟩
        conv => whnf
        (apply Exists.intro; apply And.intro; (first | ((with_reducible (repeat (refine Eq.trans (upd_ne _ ?_) ?_; (first | assumption | (apply Ne.symm; assumption))))); first | exact upd_same _ _ _ | assumption) | ((repeat (refine Eq.trans (upd_ne _ ?_) ?_; (first | assumption | (apply Ne.symm; assumption)))); first | exact upd_same _ _ _ | assumption)); refine ⟨Nat.le_of_ble_eq_true rfl, ?_⟩; conv => whnf)
        (apply Exists.intro; apply And.intro; (first | ((with_reducible (repeat (refine Eq.trans (upd_ne _ ?_) ?_; (first | assumption | (apply Ne.symm; assumption))))); first | exact upd_same _ _ _ | assumption) | ((repeat (refine Eq.trans (upd_ne _ ?_) ?_; (first | assumption | (apply Ne.symm; assumption)))); first | exact upd_same _ _ _ | assumption)); conv => whnf)
        refine Fin.same rfl (st0 := st) ?_ ⟨rfl, _, hH, Chg.refl⟩
        exact hSle.up2 h4
      have e1 : putS [] d = (putL [] d, 0, 0) := by unfold putS; rw [if_neg hlong, if_neg (by have := Ok.one (d := d) (by omega); omega)]; rfl
      rw [e1] at hput
      refine hput.call ?_
      conv => whnf
      refine ⟨fun h => absurd rfl h, fun _ => ?_⟩
      conv => whnf
      refine ⟨_, hH2.bx, ?_⟩
      conv => whnf
      have e2 : putH ([] : Pgs) d = ([putL [] d], (0, 0), 0) := by unfold putH; rw [if_neg hlong, dif_neg (show ¬ fitK [] d < ([] : Pgs).length from Nat.not_lt_zero _), if_neg (by decide)]; rfl
      rw [e2]
      refine ⟨fun h => absurd h (by decide), fun _ => ?_⟩
      conv => whnf
      refine ⟨_, hH2.bx, ?_⟩
      conv => whnf
      refine app_nil (c := pgC (putL [] d)) rfl (by decide) fun id' hid' => ?_
      have hne : id' ≠ hid := fun e => by subst e; rw [hH2.bx] at hid'; cases hid'
      have hne4 : id' ≠ id4 := fun e => by subst e; rw [h4S] at hid'; cases hid'
      conv => whnf
      refine stX ((upd_ne _ (fun e => hne e.symm)).trans hH2.bx) (Nat.le_of_ble_eq_true rfl) ?_
      have hst := hH.one (L := putL [] d) (Le.none hSle hid')
      generalize hS2 : upd (upd S id' (.ar 1 [[pgC (putL [] d)]])) hid (.bx [.arr id' 0 1, .v (.bool true)]) = S2
      have hle2 : Le (upd (upd st id' (.ar 1 [[pgC (putL [] d)]])) hid (.bx [.arr id' 0 1, .v (.bool true)])) S2 := by rw [← hS2]; exact leSame (leSame hSle)
      have h4S2 : S2 id4 = some (.bx [.v (.int .i64 0), .v (.int .i64 0)]) := by rw [← hS2, upd_ne _ h40, upd_ne _ (fun e => hne4 e.symm)]; exact h4S
      have hhS2 : S2 hid = some (.bx [.arr id' 0 1, .v (.bool true)]) := by rw [← hS2, upd_same]
      conv => whnf
      refine ⟨_, hhS2, ?_⟩
      conv => whnf
      (apply Exists.intro; apply And.intro; (first | ((with_reducible (repeat (refine Eq.trans (upd_ne _ ?_) ?_; (first | assumption | (apply Ne.symm; assumption))))); first | exact upd_same _ _ _ | assumption) | ((repeat (refine Eq.trans (upd_ne _ ?_) ?_; (first | assumption | (apply Ne.symm; assumption)))); first | exact upd_same _ _ _ | assumption)); refine ⟨Nat.le_of_ble_eq_true rfl, ?_⟩; conv => whnf)
      (apply Exists.intro; apply And.intro; (first | ((with_reducible (repeat (refine Eq.trans (upd_ne _ ?_) ?_; (first | assumption | (apply Ne.symm; assumption))))); first | exact upd_same _ _ _ | assumption) | ((repeat (refine Eq.trans (upd_ne _ ?_) ?_; (first | assumption | (apply Ne.symm; assumption)))); first | exact upd_same _ _ _ | assumption)); conv => whnf)
      refine Fin.same rfl (hle2.up2 ?_) ⟨rfl, _, hst.1, hst.2⟩
      rw [upd_ne _ h40, upd_ne _ (fun e => hne4 e.symm)]; exact h4
  | arr pid more n h1 h2 =>
    conv => whnf
    have hnl : n = Ls.length := by rw [h1, ro_length]
    have h64 := hO.2
    have h4p : pid ≠ id4 := fun e => by subst e; rw [h2] at h4S; cases h4S
    refine Pw.rng (τ := Unit) 22 n (by unfold Big; omega) [0, 1, 4, 20, 21] (fun _ => []) (fun k _ => k ≤ fitK Ls d) () rfl trivial (Nat.zero_le _) fun k _ hk hf => Pw.of TP [] ?_
    conv => whnf
    refine ⟨fun hk1 => ?_, fun hk1 => ?_⟩ <;> conv => whnf
    · have hk1 : k < n := by omega
      refine ⟨by omega, by omega, ⟨_, h2⟩, ?_⟩
      conv => whnf
      have hkl : k < Ls.length := by omega
      refine ⟨1, _, [pgC Ls[k]], h2, ro_at hkl (by omega), ?_⟩
      conv => whnf
      have hput := put_is (hO.1 _ (List.getElem_mem hkl)) hd
      have hfit := fitK_at hkl hf
      by_cases hlong : 255 < d.length
      · have e1 : putS Ls[k] d = ([], 0, 3) := by unfold putS; rw [if_pos hlong]
        have e2 : putH Ls d = (Ls, (0, 0), 3) := by unfold putH; rw [if_pos hlong]
        rw [e1] at hput
        rw [e2]
        refine hput.call ?_
        conv => whnf
        refine ⟨fun h => absurd h (by decide), fun _ => ?_⟩
        conv => whnf
        refine ⟨fun h => absurd h (by decide), fun _ => ?_⟩
        conv => whnf
        (apply Exists.intro; apply And.intro; (first | ((with_reducible (repeat (refine Eq.trans (upd_ne _ ?_) ?_; (first | assumption | (apply Ne.symm; assumption))))); first | exact upd_same _ _ _ | assumption) | ((repeat (refine Eq.trans (upd_ne _ ?_) ?_; (first | assumption | (apply Ne.symm; assumption)))); first | exact upd_same _ _ _ | assumption)); refine ⟨Nat.le_of_ble_eq_true rfl, ?_⟩; conv => whnf)
        (apply Exists.intro; apply And.intro; (first | ((with_reducible (repeat (refine Eq.trans (upd_ne _ ?_) ?_; (first | assumption | (apply Ne.symm; assumption))))); first | exact upd_same _ _ _ | assumption) | ((repeat (refine Eq.trans (upd_ne _ ?_) ?_; (first | assumption | (apply Ne.symm; assumption)))); first | exact upd_same _ _ _ | assumption)); conv => whnf)
        refine Fin.same rfl (st0 := st) ?_ ⟨rfl, _, hH, Chg.refl⟩
        exact hSle.up2 h4
      by_cases hbad : 512 < need (putL Ls[k] d)
      · have e1 : putS Ls[k] d = ([], 0, 5) := by unfold putS; rw [if_neg hlong, if_pos hbad]
        rw [e1] at hput
        refine hput.call ?_
        conv => whnf
        refine ⟨fun h => absurd h (by decide), fun _ => ?_⟩
        conv => whnf
        refine ⟨fun _ => ?_, fun h => absurd rfl h⟩
        conv => whnf
        exact ⟨hk1, rfl, ⟨rfl, rfl, rfl, rfl, rfl, trivial⟩, (), trivial, .refl _, hfit.2 (by omega)⟩
      · have e1 : putS Ls[k] d = (putL Ls[k] d, firstE Ls[k], 0) := by unfold putS; rw [if_neg hlong, if_neg hbad]
        have ek := hfit.1 (by omega)
        have e2 : putH Ls d = (Ls.set k (putL Ls[k] d), (k, firstE Ls[k]), 0) := by
          subst ek
          unfold putH; rw [if_neg hlong, dif_pos hkl]
        rw [e1] at hput
        rw [e2]
        refine hput.call ?_
        conv => whnf
        refine ⟨fun _ => ?_, fun h => absurd rfl h⟩
        conv => whnf
        refine ⟨_, hH2.bx, ?_⟩
        conv => whnf
        refine ⟨by omega, by omega, ⟨_, h2⟩, ?_⟩
        conv => whnf
        refine stR (L := putL Ls[k] d) h2 hkl (show 0 + ((k : Nat) : Int).toNat = k by omega) rfl ?_
        have hst := hH.set (more := more) (L := putL Ls[k] d) h1 hkl
        generalize hS2 : upd S pid (.ar 1 (ro pgC (Ls.set k (putL Ls[k] d)) ++ more)) = S2
        have hle2 : Le (upd st pid (.ar 1 (ro pgC (Ls.set k (putL Ls[k] d)) ++ more))) S2 := by rw [← hS2]; exact leSame hSle
        have h4S2 : S2 id4 = some (.bx [.v (.int .i64 0), .v (.int .i64 0)]) := by rw [← hS2, upd_ne _ (fun e => h4p e.symm)]; exact h4S
        conv => whnf
        (apply Exists.intro; apply And.intro; (first | ((with_reducible (repeat (refine Eq.trans (upd_ne _ ?_) ?_; (first | assumption | (apply Ne.symm; assumption))))); first | exact upd_same _ _ _ | assumption) | ((repeat (refine Eq.trans (upd_ne _ ?_) ?_; (first | assumption | (apply Ne.symm; assumption)))); first | exact upd_same _ _ _ | assumption)); refine ⟨Nat.le_of_ble_eq_true rfl, ?_⟩; conv => whnf)
        (apply Exists.intro; apply And.intro; (first | ((with_reducible (repeat (refine Eq.trans (upd_ne _ ?_) ?_; (first | assumption | (apply Ne.symm; assumption))))); first | exact upd_same _ _ _ | assumption) | ((repeat (refine Eq.trans (upd_ne _ ?_) ?_; (first | assumption | (apply Ne.symm; assumption)))); first | exact upd_same _ _ _ | assumption)); conv => whnf)
        refine Fin.same rfl (st0 := upd st pid (.ar 1 (ro pgC (Ls.set k (putL Ls[k] d)) ++ more))) ?_ ⟨rfl, _, hst.1, hst.2⟩
        exact hle2.up2 (by rw [upd_ne _ (fun e => h4p e.symm)]; exact h4)
    · have hfk : fitK Ls d = Ls.length := by have := fitK_le Ls d; omega
      have hput := put_is ok_nil (d := d) hd
      refine Pw.of TP [] ?_
      conv => whnf
      refine new_is.call ?_
      conv => whnf
      by_cases hlong : 255 < d.length
      · have e1 : putS [] d = ([], 0, 3) := by unfold putS; rw [if_pos hlong]
        have e2 : putH Ls d = (Ls, (0, 0), 3) := by unfold putH; rw [if_pos hlong]
        rw [e1] at hput
        rw [e2]
        refine hput.call ?_
        conv => whnf
        refine ⟨fun _ => ?_, fun h => absurd (show ¬ ((3 : Nat) : Int) = 0 by decide) h⟩
        conv => whnf
        (apply Exists.intro; apply And.intro; (first | ((with_reducible (repeat (refine Eq.trans (upd_ne _ ?_) ?_; (first | assumption | (apply Ne.symm; assumption))))); first | exact upd_same _ _ _ | assumption) | ((repeat (refine Eq.trans (upd_ne _ ?_) ?_; (first | assumption | (apply Ne.symm; assumption)))); first | exact upd_same _ _ _ | assumption)); refine ⟨Nat.le_of_ble_eq_true rfl, ?_⟩; conv => whnf)
        (apply Exists.intro; apply And.intro; (first | ((with_reducible (repeat (refine Eq.trans (upd_ne _ ?_) ?_; (first | assumption | (apply Ne.symm; assumption))))); first | exact upd_same _ _ _ | assumption) | ((repeat (refine Eq.trans (upd_ne _ ?_) ?_; (first | assumption | (apply Ne.symm; assumption)))); first | exact upd_same _ _ _ | assumption)); conv => whnf)
        refine Fin.same rfl (st0 := st) ?_ ⟨rfl, _, hH, Chg.refl⟩
        exact hSle.up2 h4
      have e1 : putS [] d = (putL [] d, 0, 0) := by unfold putS; rw [if_neg hlong, if_neg (by have := Ok.one (d := d) (by omega); omega)]; rfl
      rw [e1] at hput
      refine hput.call ?_
      conv => whnf
      refine ⟨fun h => absurd rfl h, fun _ => ?_⟩
      conv => whnf
      refine ⟨_, hH2.bx, ?_⟩
      conv => whnf
      refine ⟨fun h => ?_, fun h => ?_⟩ <;> conv => whnf
      · have e2 : putH Ls d = (Ls, (0, 0), 5) := by unfold putH; rw [if_neg hlong, dif_neg (by omega), if_pos (by omega)]
        rw [e2]
        (apply Exists.intro; apply And.intro; (first | ((with_reducible (repeat (refine Eq.trans (upd_ne _ ?_) ?_; (first | assumption | (apply Ne.symm; assumption))))); first | exact upd_same _ _ _ | assumption) | ((repeat (refine Eq.trans (upd_ne _ ?_) ?_; (first | assumption | (apply Ne.symm; assumption)))); first | exact upd_same _ _ _ | assumption)); refine ⟨Nat.le_of_ble_eq_true rfl, ?_⟩; conv => whnf)
        (apply Exists.intro; apply And.intro; (first | ((with_reducible (repeat (refine Eq.trans (upd_ne _ ?_) ?_; (first | assumption | (apply Ne.symm; assumption))))); first | exact upd_same _ _ _ | assumption) | ((repeat (refine Eq.trans (upd_ne _ ?_) ?_; (first | assumption | (apply Ne.symm; assumption)))); first | exact upd_same _ _ _ | assumption)); conv => whnf)
        refine Fin.same rfl (st0 := st) ?_ ⟨rfl, _, hH, Chg.refl⟩
        exact hSle.up2 h4
      have e2 : putH Ls d = (Ls ++ [putL [] d], (Ls.length, 0), 0) := by unfold putH; rw [if_neg hlong, dif_neg (by omega), if_neg (by omega)]
      rw [e2]
      refine ⟨_, hH2.bx, ?_⟩
      conv => whnf
      refine app_arr (c := pgC (putL [] d)) rfl (by decide) h2 h1 (by omega) fun id' hid' => ?_
      have hne : id' ≠ hid := fun e => by subst e; rw [hH2.bx] at hid'; cases hid'
      have hne4 : id' ≠ id4 := fun e => by subst e; rw [h4S] at hid'; cases hid'
      have hnp : hid ≠ pid := fun e => by subst e; rw [hH2.bx] at h2; cases h2
      have hdel : del S pid hid = some (.bx [.arr pid 0 n, .v (.bool true)]) := by unfold del; rw [if_neg hnp]; exact hH2.bx
      conv => whnf
      refine stX ((upd_ne _ (fun e => hne e.symm)).trans hdel) (Nat.le_of_ble_eq_true rfl) ?_
      have hst := hH.add (L := putL [] d) hnl (Le.none hSle hid')
      generalize hS2 : upd (upd (del S pid) id' (.ar 1 (ro pgC Ls ++ [[pgC (putL [] d)]]))) hid (.bx [.arr id' 0 (n + 1), .v (.bool true)]) = S2
      have hle2 : Le (upd (upd (del st pid) id' (.ar 1 (ro pgC Ls ++ [[pgC (putL [] d)]]))) hid (.bx [.arr id' 0 (n + 1), .v (.bool true)])) S2 := by rw [← hS2]; exact leSame (leSame (leDel hSle))
      have h4S2 : S2 id4 = some (.bx [.v (.int .i64 0), .v (.int .i64 0)]) := by rw [← hS2, upd_ne _ h40, upd_ne _ (fun e => hne4 e.symm)]; unfold del; rw [if_neg (fun e => h4p e.symm)]; exact h4S
      have hhS2 : S2 hid = some (.bx [.arr id' 0 (n + 1), .v (.bool true)]) := by rw [← hS2, upd_same]
      conv => whnf
      refine ⟨_, hhS2, ?_⟩
      conv => whnf
      have hw : IntKind.i64.wrap (((n + 1 : Nat) : Int) - 1) = (Ls.length : Int) := by rw [wrap_id (by omega) (by omega)]; omega
      rw [hw]
      (apply Exists.intro; apply And.intro; (first | ((with_reducible (repeat (refine Eq.trans (upd_ne _ ?_) ?_; (first | assumption | (apply Ne.symm; assumption))))); first | exact upd_same _ _ _ | assumption) | ((repeat (refine Eq.trans (upd_ne _ ?_) ?_; (first | assumption | (apply Ne.symm; assumption)))); first | exact upd_same _ _ _ | assumption)); refine ⟨Nat.le_of_ble_eq_true rfl, ?_⟩; conv => whnf)
      (apply Exists.intro; apply And.intro; (first | ((with_reducible (repeat (refine Eq.trans (upd_ne _ ?_) ?_; (first | assumption | (apply Ne.symm; assumption))))); first | exact upd_same _ _ _ | assumption) | ((repeat (refine Eq.trans (upd_ne _ ?_) ?_; (first | assumption | (apply Ne.symm; assumption)))); first | exact upd_same _ _ _ | assumption)); conv => whnf)
      refine Fin.same rfl (hle2.up2 ?_) ⟨rfl, _, hst.1, hst.2⟩
      rw [upd_ne _ h40, upd_ne _ (fun e => hne4 e.symm)]; unfold del; rw [if_neg (fun e => h4p e.symm)]; exact h4
end Go.Proofs.Ytfkkajibaeppbaa.D
namespace Go.Proofs.Ytfkkajibaeppbaa.D
set_option linter.unusedVariables false
set_option linter.unusedSimpArgs false
open Go Go.Proofs.Ytfkkajibaeppbaa.D.Pm
set_option maxRecDepth 4000
/-- a page, if it is there -/
def pgH (Ls : Pgs) (p : Int) : Option (List Sl) := if p < 0 then none else Ls[p.toNat]?
theorem pgH_some {Ls : Pgs} {p : Int} {L : List Sl} (h : pgH Ls p = some L) : ∃ k : Nat, p = (k : Int) ∧ ∃ hk : k < Ls.length, Ls[k] = L := by
  unfold pgH at h
  split at h
  · cases h
  · obtain ⟨h1, h2⟩ := List.getElem?_eq_some_iff.1 h
    exact ⟨p.toNat, by omega, h1, h2⟩
theorem pgH_at {Ls : Pgs} {k : Nat} (hk : k < Ls.length) : pgH Ls (k : Int) = some Ls[k] := by
  unfold pgH
  rw [if_neg (by omega), Int.toNat_natCast, List.getElem?_eq_getElem hk]
theorem pgH_none {Ls : Pgs} {p : Int} (h : p < 0 ∨ (Ls.length : Int) ≤ p) : pgH Ls p = none := by
  unfold pgH
  split
  · rfl
  · exact List.getElem?_eq_none (by omega)
def atC (o : Option (List Sl)) : AC := match o with
  | some L => pgC L
  | none => .v (.slice none 0 0)
theorem at_does {st : Sto} {hid : Nat} {Ls : Pgs} {x : AC} (hH : HAt st hid Ls x) (p : Int) : Does Try.prog 57 [.c (.ptr hid 0), vI .i64 p] st fun r s => r = .c (atC (pgH Ls p)) ∧ s = st := by
  refine Does.of TP Try.func57 rfl rfl (Nat.le_of_ble_eq_true rfl) (Pw.of TP [] ?_)
  conv => whnf
  refine ⟨fun h => ?_, fun h => ?_⟩ <;> conv => whnf
  · rw [pgH_none (.inl h)]
    exact Fin.pure
  refine ⟨_, hH.bx, ?_⟩
  have hli := hH.li
  cases hli with
  | nil h0 =>
    have hLs : Ls = [] := by
      cases Ls with
      | nil => rfl
      | cons a l => cases h0
    conv => whnf
    refine ⟨fun h2 => ?_, fun h2 => ?_⟩ <;> conv => whnf
    · rw [pgH_none (.inr (by rw [hLs]; exact Int.not_lt.1 h))]
      exact Fin.pure
    · exact absurd (Int.not_lt.1 h) h2
  | arr pid more n h1 h2 =>
    have hn : n = Ls.length := by rw [h1, ro_length]
    conv => whnf
    refine ⟨fun h3 => ?_, fun h3 => ?_⟩ <;> conv => whnf
    · rw [pgH_none (.inr (by omega))]
      exact Fin.pure
    · obtain ⟨k, rfl⟩ : ∃ k : Nat, p = (k : Int) := ⟨p.toNat, by omega⟩
      have hk : k < Ls.length := by omega
      rw [pgH_at hk]
      refine ⟨_, hH.bx, ?_⟩
      conv => whnf
      refine ⟨by omega, by omega, ⟨_, h2⟩, ?_⟩
      conv => whnf
      refine ⟨1, _, [pgC Ls[k]], h2, ro_at hk (by omega), ?_⟩
      conv => whnf
      exact Fin.pure
def ridI (p s : Int) : List AC := [.v (.int .i64 p), .v (.int .i64 s)]
def getH (Ls : Pgs) (p s : Int) : Option By := match pgH Ls p with
  | some L => getS L s
  | none => none
theorem pg_ne {L : List Sl} (h : Ok L) : 0 < (byl (pg L)).length := by
  rw [byl_length, pg_length h.fit]
  decide
theorem hget_does {st : Sto} {hid : Nat} {Ls : Pgs} {x : AC} (hH : HAt st hid Ls x) (hO : OkH Ls) (p s : Int) : Does Try.prog 32 [.c (.ptr hid 0), .g (ridI p s)] st fun r s' => r = getR (getH Ls p s) ∧ s' = st := by
  refine Does.of TP Try.func32 rfl rfl (Nat.le_of_ble_eq_true rfl) (Pw.of TP [] ?_)
  conv => whnf
  refine (dead_no hH).go ?_
  conv => whnf
  refine (at_does hH p).go ?_
  cases hp : pgH Ls p with
  | none =>
    have e : getH Ls p s = none := by unfold getH; rw [hp]
    rw [e]
    conv => whnf
    exact ⟨fun _ => false, st, _, FV.t2 (FV.nil _ _ 1) (.refl _), fun i o h => ⟨h, rfl⟩, rfl, rfl⟩
  | some L =>
    obtain ⟨k, rfl, hk, rfl⟩ := pgH_some hp
    have e : getH Ls (k : Int) s = getS Ls[k] s := by unfold getH; rw [hp]
    have hOk := hO.1 _ (List.getElem_mem hk)
    rw [e]
    conv => whnf
    intro b hb
    cases b
    · conv => whnf
      refine (get_is hOk s).call ?_
      cases getS Ls[k] s <;> conv => whnf
      · exact Fin.pure
      · exact Fin.pure
    · exact absurd (hb (pg_ne hOk)) (by decide)
def usL (L : List Sl) : Bool := decide (0 < (slotL 0 L).length)
theorem used_is {L : List Sl} (h : Ok L) : Is Try.prog 70 [.c (pgC L)] (vB (usL L)) := by
  refine Is.of TP Try.func70 rfl rfl (Nat.le_of_ble_eq_true rfl) fun st => Pw.of TP [] ?_
  conv => whnf
  refine (slots_is h).call ?_
  have e : (nums (slotL 0 L)).length = (slotL 0 L).length := by simp [nums]
  conv => whnf
  rw [e]
  refine ⟨fun h => ?_, fun h => ?_⟩ <;> conv => whnf
  · exact Fin.old (congrArg vB (decide_eq_true (by omega)).symm) (.refl _)
  · exact Fin.old (congrArg vB (decide_eq_false (by omega)).symm) (.refl _)
/-- how many pages are left -/
def trK (Ls : Pgs) : Nat → Nat
  | 0 => 0
  | n + 1 => match Ls[n]? with
    | some L => if usL L then n + 1 else trK Ls n
    | none => trK Ls n
theorem trK_le (Ls : Pgs) : ∀ n, trK Ls n ≤ n
  | 0 => Nat.le_refl _
  | n + 1 => by
    have := trK_le Ls n
    unfold trK
    split
    · split <;> omega
    · omega
theorem trK_at {Ls : Pgs} {n : Nat} (h : n < Ls.length) : (usL Ls[n] = true → trK Ls (n + 1) = n + 1) ∧ (usL Ls[n] = false → trK Ls (n + 1) = trK Ls n) := by
  rw [trK, List.getElem?_eq_getElem h]
  dsimp only
  constructor
  · intro e; rw [if_pos e]
  · intro e; rw [if_neg (by rw [e]; decide)]
def trH (Ls : Pgs) : Pgs := Ls.take (trK Ls Ls.length)
theorem HAt.cut {s : Sto} {hid pid : Nat} {Ls : Pgs} {n m : Nat} (h : HAt s hid Ls (.arr pid 0 n)) (hm : m ≤ n) : HAt (upd s hid (.bx [.arr pid 0 m, .v (.bool true)])) hid (Ls.take m) (.arr pid 0 m) ∧ Chg s (upd s hid (.bx [.arr pid 0 m, .v (.bool true)])) (ow hid (.arr pid 0 n)) (ow hid (.arr pid 0 m)) := by
  cases h.li with
  | arr _ more _ h1 h2 =>
  have hne : pid ≠ hid := fun e => by subst e; rw [h.bx] at h2; cases h2
  have hn : n = Ls.length := by rw [h1, ro_length]
  refine ⟨⟨upd_same _ _ _, .arr _ (ro pgC (Ls.drop m) ++ more) _ (by rw [ro_length, List.length_take]; omega) ?_⟩, fun i o hi hA => ?_⟩
  · rw [upd_ne _ hne, h2]
    have : ro pgC Ls = ro pgC (Ls.take m) ++ ro pgC (Ls.drop m) := by unfold ro; rw [← List.map_append, List.take_append_drop]
    rw [this, List.append_assoc]
  · have h3 : i ≠ hid := fun e => hA (.inl e)
    refine ⟨by rw [upd_ne _ h3]; exact hi, fun hB => ?_⟩
    rcases hB with e | ⟨l, e⟩
    · exact h3 e
    · cases e; exact hA (.inr ⟨n, rfl⟩)
theorem htrim_does {st : Sto} {hid pid n : Nat} {Ls : Pgs} (hH : HAt st hid Ls (.arr pid 0 n)) (hO : OkH Ls) : Does Try.prog 60 [.c (.ptr hid 0)] st fun r s => r = .t [] ∧ ∃ m, HAt s hid (trH Ls) (.arr pid 0 m) ∧ Chg st s (ow hid (.arr pid 0 n)) (ow hid (.arr pid 0 m)) := by
  have hli := hH.li
  cases hli with
  | arr _ more _ h1 h2 =>
  have hn : n = Ls.length := by rw [h1, ro_length]
  have h64 := hO.2
  refine Does.of TP Try.func60 rfl rfl (Nat.le_of_ble_eq_true rfl) (Pw.of TP [] ?_)
  conv => whnf
  refine ⟨_, hH.bx, ?_⟩
  conv => whnf
  refine Pw.loop (σ := Nat) (fun m => [(2, vI .i64 (m : Int)), (0, .c (.ptr hid 0))]) (fun _ => st) (fun m => m ≤ n ∧ trK Ls m = trK Ls n) (fun m => m) ⟨n, .mk ⟨rfl, rfl, trivial⟩ (.refl _), Nat.le_refl _, rfl⟩ ?_
  rintro m ⟨hm, ht⟩
  refine Pw.of TP [] ?_
  conv => whnf
  have hend : trK Ls m = m → HAt (upd st hid (.bx [.arr pid 0 m, .v (.bool true)])) hid (trH Ls) (.arr pid 0 m) ∧ Chg st (upd st hid (.bx [.arr pid 0 m, .v (.bool true)])) (ow hid (.arr pid 0 n)) (ow hid (.arr pid 0 m)) := fun e => by
    have := hH.cut hm
    unfold trH
    rw [← hn, ← ht, e]
    exact this
  refine ⟨fun h => ?_, fun h => ?_⟩ <;> conv => whnf
  · obtain ⟨q, rfl⟩ : ∃ q, m = q + 1 := ⟨m - 1, by omega⟩
    have hq : q < Ls.length := by omega
    have hw : IntKind.i64.wrap (((q + 1 : Nat) : Int) - 1) = (q : Int) := by rw [wrap_id (by omega) (by omega)]; omega
    refine ⟨_, hH.bx, ?_⟩
    conv => whnf
    rw [hw]
    refine ⟨by omega, by omega, ⟨_, h2⟩, ?_⟩
    conv => whnf
    refine ⟨1, _, [pgC Ls[q]], h2, ro_at hq (by omega), ?_⟩
    conv => whnf
    refine (used_is (hO.1 _ (List.getElem_mem hq))).callB fun b hb => ?_
    cases b
    · conv => whnf
      refine ⟨q, .mk ⟨congrArg (fun x => some (vI .i64 x)) hw, rfl, trivial⟩ (.refl _), ⟨by omega, by rw [← ht, (trK_at hq).2 hb]⟩, by omega⟩
    · have hst := hend ((trK_at hq).1 hb)
      conv => whnf
      refine ⟨_, hH.bx, ?_⟩
      conv => whnf
      refine ⟨⟨_, h2⟩, ?_⟩
      conv => whnf
      refine ⟨Int.le_refl 0, by omega, by omega, ?_⟩
      conv => whnf
      refine stX (x' := .arr pid 0 (q + 1)) hH.bx (Nat.le_of_ble_eq_true rfl) ?_
      conv => whnf
      exact Fin.same rfl (.refl _) ⟨rfl, _, hst.1, hst.2⟩
  · have hm0 : m = 0 := by omega
    subst hm0
    have hst := hend rfl
    refine ⟨_, hH.bx, ?_⟩
    conv => whnf
    refine ⟨⟨_, h2⟩, ?_⟩
    conv => whnf
    refine ⟨Int.le_refl 0, Int.le_refl 0, by omega, ?_⟩
    conv => whnf
    refine stX (x' := .arr pid 0 0) hH.bx (Nat.le_of_ble_eq_true rfl) ?_
    conv => whnf
    exact Fin.same rfl (.refl _) ⟨rfl, _, hst.1, hst.2⟩
def dropH (Ls : Pgs) (p s : Int) : Pgs × Nat := match pgH Ls p with
  | none => (Ls, 4)
  | some L => if (dropS L s).2 = 0 then (trH (Ls.set p.toNat (dropS L s).1), 0) else (Ls, (dropS L s).2)
theorem OkH.set {Ls : Pgs} (hO : OkH Ls) {L : List Sl} (h : Ok L) (k : Nat) : OkH (Ls.set k L) := ⟨fun M hM => by
  rcases List.mem_or_eq_of_mem_set hM with h1 | h1
  · exact hO.1 _ h1
  · rw [h1]; exact h, by rw [List.length_set]; exact hO.2⟩
theorem OkH.tr {Ls : Pgs} (hO : OkH Ls) : OkH (trH Ls) := ⟨fun M hM => hO.1 _ (List.mem_of_mem_take hM), by unfold trH; rw [List.length_take]; have := hO.2; omega⟩
theorem Chg.trans {a b c : Sto} {A B C : Nat → Prop} (h1 : Chg a b A B) (h2 : Chg b c B C) : Chg a c A C := fun i o hi hA => h2 i o (h1 i o hi hA).1 (h1 i o hi hA).2
theorem hdrop_does {st : Sto} {hid : Nat} {Ls : Pgs} {x : AC} (hH : HAt st hid Ls x) (hO : OkH Ls) (p s : Int) : Does Try.prog 38 [.c (.ptr hid 0), .g (ridI p s)] st fun r s' => r = vI .i64 ((dropH Ls p s).2 : Nat) ∧ ∃ x', HAt s' hid (dropH Ls p s).1 x' ∧ Chg st s' (ow hid x) (ow hid x') := by
  refine Does.of TP Try.func38 rfl rfl (Nat.le_of_ble_eq_true rfl) (Pw.of TP [] ?_)
  conv => whnf
  refine (dead_no hH).go ?_
  conv => whnf
  refine (at_does hH p).go ?_
  unfold dropH
  cases hp : pgH Ls p with
  | none =>
    conv => whnf
    exact Fin.same rfl (.refl _) ⟨rfl, _, hH, Chg.refl⟩
  | some L =>
    obtain ⟨k, rfl, hk, rfl⟩ := pgH_some hp
    have hOk := hO.1 _ (List.getElem_mem hk)
    have hdrop := drop_is hOk s
    have kdrop := dropS_ok hOk s
    dsimp only
    rw [Int.toNat_natCast]
    conv => whnf
    intro b hb
    cases b
    · conv => whnf
      refine hdrop.call ?_
      generalize dropS Ls[k] s = D at kdrop
      obtain ⟨dl, de⟩ := D
      rcases de with _ | de
      · have hli := hH.li
        cases hli with
        | nil h0 => rw [show Ls.length = 0 by rw [← ro_length (enc := pgC), h0]; rfl] at hk; exact absurd hk (Nat.not_lt_zero _)
        | arr pid more n h1 h2 =>
          have hst := hH.set (more := more) (L := dl) h1 hk
          conv => whnf
          refine ⟨fun h => absurd rfl h, fun _ => ?_⟩
          conv => whnf
          refine Pw.drwQ TP mixed [8] 8 [3, 7] (by kernel_rfl) ?_; conv => whnf
          refine ⟨_, hH.bx, ?_⟩
          conv => whnf
          refine ⟨by omega, by rw [h1, ro_length]; omega, ⟨_, h2⟩, ?_⟩
          conv => whnf
          refine ⟨.refl _, ?_⟩
          conv => whnf
          refine stR (L := dl) h2 hk (show 0 + ((k : Nat) : Int).toNat = k by omega) rfl ?_
          conv => whnf
          refine (htrim_does hst.1 (hO.set (kdrop rfl) k)).mono fun r s' h => ?_
          obtain ⟨rfl, m, hm1, hm2⟩ := h
          conv => whnf
          exact Fin.same rfl (.refl _) ⟨rfl, _, hm1, hst.2.trans hm2⟩
      · conv => whnf
        refine ⟨fun _ => ?_, fun h => absurd (show ¬ ((de + 1 : Nat) : Int) = 0 by omega) h⟩
        conv => whnf
        exact Fin.same rfl (.refl _) ⟨rfl, _, hH, Chg.refl⟩
    · exact absurd (hb (pg_ne hOk)) (by decide)
end Go.Proofs.Ytfkkajibaeppbaa.D
namespace Go.Proofs.Ytfkkajibaeppbaa.D
set_option linter.unusedVariables false
set_option linter.unusedSimpArgs false
open Go Go.Proofs.Ytfkkajibaeppbaa.D.Pm
set_option maxRecDepth 4000
theorem HAt.upd {s : Sto} {hid id : Nat} {Ls : Pgs} {x : AC} {o : Ob} (h : HAt s hid Ls x) (hn : ¬ ow hid x id) : HAt (Pm.upd s id o) hid Ls x :=
  ⟨by rw [upd_ne _ (fun e => hn (.inl e.symm))]; exact h.bx, h.li.mono fun i l o e ho => by rw [upd_ne _ (fun e2 => by subst e2; exact hn (.inr ⟨l, e⟩))]; exact ho⟩
theorem Chg.upd {a b : Sto} {A B : Nat → Prop} {id : Nat} {o : Ob} (h : Chg a b A B) (hn : a id = none) : Chg a (Pm.upd b id o) A B := fun i p hi hA => by
  refine ⟨?_, (h i p hi hA).2⟩
  rw [upd_ne _ (fun e => by subst e; rw [hn] at hi; cases hi)]
  exact (h i p hi hA).1
theorem Chg.up {a : Sto} {A : Nat → Prop} {id : Nat} {o : Ob} (hn : a id = none) : Chg a (Pm.upd a id o) A A := Chg.refl.upd hn
theorem HAt.new {s : Sto} {hid id : Nat} {Ls : Pgs} {x : AC} (h : HAt s hid Ls x) (hn : s id = none) : ¬ ow hid x id := fun e => by
  rcases e with e | ⟨l, e⟩
  · rw [e, h.bx] at hn; cases hn
  · subst e
    cases h.li with
    | arr _ m _ a b => rw [b] at hn; cases hn
theorem putH_ok {Ls : Pgs} (hO : OkH Ls) (d : By) : OkH (putH Ls d).1 := by
  unfold putH
  split
  · exact hO
  rename_i h1
  split
  · rename_i h2
    have := (fitK_at h2 (Nat.le_refl _)).2
    exact hO.set (ok_putL (hO.1 _ (List.getElem_mem h2)) (by omega) (by
      by_cases hn : need (putL Ls[fitK Ls d] d) ≤ 512
      · exact hn
      · have := this hn; omega)) _
  split
  · exact hO
  · rename_i h3 h4
    have := hO.2
    refine ⟨fun M hM => ?_, by simp; omega⟩
    rcases List.mem_append.1 hM with h | h
    · exact hO.1 _ h
    · simp at h; subst h
      exact ok_putL ok_nil (by omega) (Ok.one (by omega))
theorem putH_bad {Ls : Pgs} {d : By} (h : (putH Ls d).2.2 ≠ 0) : (putH Ls d).1 = Ls := by
  unfold putH at h ⊢
  split
  · rfl
  · rename_i h1
    rw [if_neg h1] at h
    split
    · rename_i h2; rw [dif_pos h2] at h; exact absurd rfl h
    · rename_i h2
      rw [dif_neg h2] at h
      split
      · rfl
      · rename_i h3; rw [if_neg h3] at h; exact absurd rfl h
theorem putH_len (Ls : Pgs) (d : By) : Ls.length ≤ (putH Ls d).1.length := by
  unfold putH
  split
  · exact Nat.le_refl _
  split
  · rw [List.length_set]; exact Nat.le_refl _
  split
  · exact Nat.le_refl _
  · simp
theorem HAt.ln {s : Sto} {hid : Nat} {Ls : Pgs} (h : HAt s hid Ls (.v (.slice none 0 0))) : Ls.length = 0 := by
  cases h.li with
  | nil h0 => rw [← ro_length (enc := pgC), h0]; rfl
def moveH (Ls : Pgs) (k : Nat) (M : Pgs) (d : By) : Pgs × (Nat × Nat) × Nat :=
  if (putH M d).2.2 = 0 then (trH (putH M d).1, (putH M d).2.1, 0) else (Ls, (0, 0), (putH M d).2.2)
theorem hmove_does {st : Sto} {hid : Nat} {Ls : Pgs} {x : AC} (hH : HAt st hid Ls x) (hO : OkH Ls) {k : Nat} (hk : k < Ls.length) {s : Int} (hs : (dropS Ls[k] s).2 = 0) {d : By} (hd : d.length ≤ 9223372036854775807) :
    Does Try.prog 59 [.c (.ptr hid 0), .g (ridI k s), .c (.sl 1 (byl d))] st fun r s' => r = .t [.g (rid (moveH Ls k (Ls.set k (dropS Ls[k] s).1) d).2.1), vI .i64 ((moveH Ls k (Ls.set k (dropS Ls[k] s).1) d).2.2 : Nat)] ∧ ∃ x', HAt s' hid (moveH Ls k (Ls.set k (dropS Ls[k] s).1) d).1 x' ∧ Chg st s' (ow hid x) (ow hid x') := by
  have hOk := hO.1 _ (List.getElem_mem hk)
  have hdrop := drop_is hOk s
  have kdrop := dropS_ok hOk s hs
  generalize dropS Ls[k] s = D at hdrop kdrop hs
  obtain ⟨dl, de⟩ := D
  cases hs
  dsimp only at kdrop ⊢
  have hli := hH.li
  cases hli with
  | nil h0 => rw [show Ls.length = 0 by rw [← ro_length (enc := pgC), h0]; rfl] at hk; exact absurd hk (Nat.not_lt_zero _)
  | arr pid more n h1 h2 =>
  have hn : n = Ls.length := by rw [h1, ro_length]
  refine Does.of TP Try.func59 rfl rfl (Nat.le_of_ble_eq_true rfl) (Pw.of TP [] ?_)
  conv => whnf
  intro id6 h6
  conv => whnf
  refine Pw.gen fun S eS => ?_
  have eS : S = upd st id6 (.bx [.v (.int .i64 0), .v (.int .i64 0)]) := eS
  have hS : HAt S hid Ls (.arr pid 0 n) := by rw [eS]; exact hH.upd (hH.new h6)
  have hC : Chg st S (ow hid (.arr pid 0 n)) (ow hid (.arr pid 0 n)) := by rw [eS]; exact Chg.up h6
  have h2S : S pid = some (.ar 1 (ro pgC Ls ++ more)) := by rw [eS, upd_ne _ (fun e => by subst e; rw [h2] at h6; cases h6)]; exact h2
  have h6S : S id6 = some (.bx [.v (.int .i64 0), .v (.int .i64 0)]) := by rw [eS]; exact upd_same _ _ _
  refine Pw.drw TP mixed (by kernel_rfl) ?_; conv => whnf
  refine ⟨_, hS.bx, ?_⟩
  conv => whnf
  refine ⟨by omega, by omega, ⟨_, h2S⟩, ?_⟩
  conv => whnf
  refine ⟨1, _, [pgC Ls[k]], h2S, ro_at hk (by omega), ?_⟩
  conv => whnf
  refine Pw.drwQ TP mixed [14] 14 [3, 13] (by kernel_rfl) ?_; conv => whnf
  refine ⟨_, hS.bx, ?_⟩
  conv => whnf
  refine hdrop.draw ?_
  conv => whnf
  refine ⟨by omega, by omega, ⟨_, h2S⟩, ?_⟩
  conv => whnf
  refine ⟨.refl _, ?_⟩
  conv => whnf
  refine stR (L := dl) h2S hk (show 0 + ((k : Nat) : Int).toNat = k by omega) rfl ?_
  have hst := hS.set (more := more) (L := dl) h1 hk
  conv => whnf
  have hP := putH_ok (hO.set kdrop k) d
  have hB := putH_bad (Ls := Ls.set k dl) (d := d)
  have hLn := putH_len (Ls.set k dl) d
  rw [List.length_set] at hLn
  refine (hput_does hst.1 (hO.set kdrop k) hd).mono fun r s2 h => ?_
  obtain ⟨rfl, x2, hm1, hm2⟩ := h
  unfold moveH
  generalize putH (Ls.set k dl) d = P at hm1 hP hB hLn
  obtain ⟨M, to, e⟩ := P
  dsimp only at hm1 hP hB hLn ⊢
  have hC2 : Chg st s2 (ow hid (.arr pid 0 n)) (ow hid x2) := hC.trans (hst.2.trans hm2)
  have h6n : ¬ ow hid (.arr pid 0 n) id6 := hH.new h6
  have hp6 : pid ≠ id6 := fun e => by subst e; rw [h2] at h6; cases h6
  obtain ⟨h62, h6n2⟩ := hm2 id6 _ (by rw [upd_ne _ (fun e => hp6 e.symm)]; exact h6S) h6n
  rcases e with _ | e
  · rw [if_pos rfl]
    conv => whnf
    refine ⟨fun h => absurd rfl h, fun _ => ?_⟩
    conv => whnf
    have hli2 := hm1.li
    cases hli2 with
    | nil h0 => have := hm1.ln; omega
    | arr pid2 more2 n2 k1 k2 =>
      refine (htrim_does hm1 hP).mono fun r s3 h => ?_
      obtain ⟨rfl, m, hm3, hm4⟩ := h
      obtain ⟨h63, h6n3⟩ := hm4 id6 _ h62 h6n2
      conv => whnf
      (apply Exists.intro; apply And.intro; (first | ((with_reducible (repeat (refine Eq.trans (upd_ne _ ?_) ?_; (first | assumption | (apply Ne.symm; assumption))))); first | exact upd_same _ _ _ | assumption) | ((repeat (refine Eq.trans (upd_ne _ ?_) ?_; (first | assumption | (apply Ne.symm; assumption)))); first | exact upd_same _ _ _ | assumption)); refine ⟨Nat.le_of_ble_eq_true rfl, ?_⟩; conv => whnf)
      (apply Exists.intro; apply And.intro; (first | ((with_reducible (repeat (refine Eq.trans (upd_ne _ ?_) ?_; (first | assumption | (apply Ne.symm; assumption))))); first | exact upd_same _ _ _ | assumption) | ((repeat (refine Eq.trans (upd_ne _ ?_) ?_; (first | assumption | (apply Ne.symm; assumption)))); first | exact upd_same _ _ _ | assumption)); conv => whnf)
      exact Fin.same rfl (.refl _) ⟨rfl, _, hm3.upd h6n3, (hC2.trans hm4).upd h6⟩
  · rw [if_neg (Nat.succ_ne_zero e)]
    have hM := hB (by omega)
    subst hM
    conv => whnf
    refine ⟨fun _ => ?_, fun h => absurd (show ¬ ((e + 1 : Nat) : Int) = 0 by omega) h⟩
    conv => whnf
    have hli2 := hm1.li
    cases hli2 with
    | nil h0 => have := hm1.ln; omega
    | arr pid2 more2 n2 k1 k2 =>
      have hkl : k < (Ls.set k dl).length := by rw [List.length_set]; exact hk
      have hst2 := hm1.set (more := more2) (L := Ls[k]) k1 hkl
      have hback : (Ls.set k dl).set k Ls[k] = Ls := by rw [List.set_set, List.set_getElem_self]
      rw [hback] at hst2
      have hn2 : n2 = Ls.length := by rw [k1, ro_length, List.length_set]
      refine Pw.drwQ TP mixed [8] 8 [3, 7] (by kernel_rfl) ?_; conv => whnf
      refine ⟨_, hm1.bx, ?_⟩
      conv => whnf
      refine ⟨by omega, by omega, ⟨_, k2⟩, ?_⟩
      conv => whnf
      refine ⟨.refl _, ?_⟩
      conv => whnf
      refine stR (L := Ls[k]) k2 hkl (show 0 + ((k : Nat) : Int).toNat = k by omega) rfl ?_
      rw [hback]
      obtain ⟨h63, h6n3⟩ := hst2.2 id6 _ h62 h6n2
      conv => whnf
      (apply Exists.intro; apply And.intro; (first | ((with_reducible (repeat (refine Eq.trans (upd_ne _ ?_) ?_; (first | assumption | (apply Ne.symm; assumption))))); first | exact upd_same _ _ _ | assumption) | ((repeat (refine Eq.trans (upd_ne _ ?_) ?_; (first | assumption | (apply Ne.symm; assumption)))); first | exact upd_same _ _ _ | assumption)); refine ⟨Nat.le_of_ble_eq_true rfl, ?_⟩; conv => whnf)
      (apply Exists.intro; apply And.intro; (first | ((with_reducible (repeat (refine Eq.trans (upd_ne _ ?_) ?_; (first | assumption | (apply Ne.symm; assumption))))); first | exact upd_same _ _ _ | assumption) | ((repeat (refine Eq.trans (upd_ne _ ?_) ?_; (first | assumption | (apply Ne.symm; assumption)))); first | exact upd_same _ _ _ | assumption)); conv => whnf)
      exact Fin.same rfl (.refl _) ⟨rfl, _, hst2.1.upd h6n3, (hC2.trans hst2.2).upd h6⟩
end Go.Proofs.Ytfkkajibaeppbaa.D
namespace Go.Proofs.Ytfkkajibaeppbaa.D
set_option linter.unusedVariables false
set_option linter.unusedSimpArgs false
open Go Go.Proofs.Ytfkkajibaeppbaa.D.Pm
set_option maxRecDepth 4000
def setH (Ls : Pgs) (p s : Int) (d : By) : Pgs × (Nat × Nat) × Nat := match pgH Ls p with
  | none => (Ls, (0, 0), if 255 < d.length then 3 else 4)
  | some L => if (setS L s d).2 = 0 then (Ls.set p.toNat (setS L s d).1, (p.toNat, s.toNat), 0)
    else if (setS L s d).2 = 5 then moveH Ls p.toNat (Ls.set p.toNat (dropS L s).1) d
    else (Ls, (0, 0), (setS L s d).2)
theorem setS_full {L : List Sl} {s : Int} {d : By} (h : (setS L s d).2 = 5) : (dropS L s).2 = 0 := by
  unfold setS at h
  split at h
  · cases h
  unfold dropS
  cases hg : getS L s with
  | none => rw [hg] at h; cases h
  | some d0 => rfl
theorem setS_zero {L : List Sl} {s : Int} {d : By} (h : (setS L s d).2 = 0) : ∃ j : Nat, s = (j : Int) := by
  unfold setS at h
  split at h
  · cases h
  cases hg : getS L s with
  | none => rw [hg] at h; cases h
  | some d0 =>
    obtain ⟨k, hk, _⟩ := find_some hg
    exact ⟨k, hk⟩
theorem hset_does {st : Sto} {hid : Nat} {Ls : Pgs} {x : AC} (hH : HAt st hid Ls x) (hO : OkH Ls) (p s : Int) {d : By} (hd : d.length ≤ 100000) :
    Does Try.prog 37 [.c (.ptr hid 0), .g (ridI p s), .c (.sl 1 (byl d))] st fun r s' => r = .t [.g (rid (setH Ls p s d).2.1), vI .i64 ((setH Ls p s d).2.2 : Nat)] ∧ ∃ x', HAt s' hid (setH Ls p s d).1 x' ∧ Chg st s' (ow hid x) (ow hid x') := by
  refine Does.of TP Try.func37 rfl rfl (Nat.le_of_ble_eq_true rfl) (Pw.of TP [1] ?_)
  conv => whnf
  intro id6 h6
  conv => whnf
  refine Pw.gen fun S eS => ?_
  have eS : S = upd st id6 (.bx [.v (.int .i64 0), .v (.int .i64 0)]) := eS
  have hS : HAt S hid Ls x := by rw [eS]; exact hH.upd (hH.new h6)
  have hC : Chg st S (ow hid x) (ow hid x) := by rw [eS]; exact Chg.up h6
  have h6S : S id6 = some (.bx [.v (.int .i64 0), .v (.int .i64 0)]) := by rw [eS]; exact upd_same _ _ _
  have h6n := hH.new h6
  refine Pw.of TP [] ?_
  conv => whnf
  refine (dead_no hS).go ?_
  conv => whnf
  refine (at_does hS p).go ?_
  unfold setH
  cases hp : pgH Ls p with
  | none =>
    have hput := put_is ok_nil (d := d) (by omega)
    conv => whnf
    refine new_is.call ?_
    conv => whnf
    refine hput.call ?_
    by_cases hlong : 255 < d.length
    · have e1 : putS [] d = ([], 0, 3) := by unfold putS; rw [if_pos hlong]
      rw [e1, if_pos hlong]
      conv => whnf
      refine ⟨fun h => absurd h (show ¬ ((3 : Nat) : Int) = 0 by decide), fun _ => ?_⟩
      conv => whnf
      (apply Exists.intro; apply And.intro; (first | ((with_reducible (repeat (refine Eq.trans (upd_ne _ ?_) ?_; (first | assumption | (apply Ne.symm; assumption))))); first | exact upd_same _ _ _ | assumption) | ((repeat (refine Eq.trans (upd_ne _ ?_) ?_; (first | assumption | (apply Ne.symm; assumption)))); first | exact upd_same _ _ _ | assumption)); refine ⟨Nat.le_of_ble_eq_true rfl, ?_⟩; conv => whnf)
      (apply Exists.intro; apply And.intro; (first | ((with_reducible (repeat (refine Eq.trans (upd_ne _ ?_) ?_; (first | assumption | (apply Ne.symm; assumption))))); first | exact upd_same _ _ _ | assumption) | ((repeat (refine Eq.trans (upd_ne _ ?_) ?_; (first | assumption | (apply Ne.symm; assumption)))); first | exact upd_same _ _ _ | assumption)); conv => whnf)
      exact Fin.same rfl (.refl _) ⟨rfl, _, hS.upd h6n, hC.upd h6⟩
    · have e1 : putS [] d = (putL [] d, 0, 0) := by unfold putS; rw [if_neg hlong, if_neg (by have := Ok.one (d := d) (by omega); omega)]; rfl
      rw [e1, if_neg hlong]
      conv => whnf
      refine ⟨fun _ => ?_, fun h => absurd rfl h⟩
      conv => whnf
      (apply Exists.intro; apply And.intro; (first | ((with_reducible (repeat (refine Eq.trans (upd_ne _ ?_) ?_; (first | assumption | (apply Ne.symm; assumption))))); first | exact upd_same _ _ _ | assumption) | ((repeat (refine Eq.trans (upd_ne _ ?_) ?_; (first | assumption | (apply Ne.symm; assumption)))); first | exact upd_same _ _ _ | assumption)); refine ⟨Nat.le_of_ble_eq_true rfl, ?_⟩; conv => whnf)
      (apply Exists.intro; apply And.intro; (first | ((with_reducible (repeat (refine Eq.trans (upd_ne _ ?_) ?_; (first | assumption | (apply Ne.symm; assumption))))); first | exact upd_same _ _ _ | assumption) | ((repeat (refine Eq.trans (upd_ne _ ?_) ?_; (first | assumption | (apply Ne.symm; assumption)))); first | exact upd_same _ _ _ | assumption)); conv => whnf)
      exact Fin.same rfl (.refl _) ⟨rfl, _, hS.upd h6n, hC.upd h6⟩
  | some L =>
    obtain ⟨k, rfl, hk, rfl⟩ := pgH_some hp
    have hOk := hO.1 _ (List.getElem_mem hk)
    have hset := set_is hOk (d := d) (by omega) s
    have kset := setS_ok hOk s d
    have kfull := setS_full (L := Ls[k]) (s := s) (d := d)
    have kzero := setS_zero (L := Ls[k]) (s := s) (d := d)
    have hmv := fun h => hmove_does hS hO hk (s := s) (d := d) (hs := h) (by omega)
    dsimp only
    rw [Int.toNat_natCast]
    conv => whnf
    intro b hb
    cases b
    rotate_left
    · exact absurd (hb (pg_ne hOk)) (by decide)
    conv => whnf
    refine hset.call ?_
    generalize setS Ls[k] s d = T at kset kfull kzero
    obtain ⟨tl, te⟩ := T
    dsimp only at kset kfull kzero ⊢
    by_cases h0 : te = 0
    · subst h0
      obtain ⟨j, rfl⟩ := kzero rfl
      rw [if_pos rfl, Int.toNat_natCast]
      have hli := hS.li
      cases hli with
      | nil h0 => rw [show Ls.length = 0 by rw [← ro_length (enc := pgC), h0]; rfl] at hk; exact absurd hk (Nat.not_lt_zero _)
      | arr pid more n h1 h2 =>
        have hn : n = Ls.length := by rw [h1, ro_length]
        have hst := hS.set (more := more) (L := tl) h1 hk
        conv => whnf
        refine ⟨fun _ => ?_, fun h => absurd rfl h⟩
        conv => whnf
        refine Pw.drwQ TP mixed [8] 8 [3, 7] (by kernel_rfl) ?_; conv => whnf
        refine ⟨_, hS.bx, ?_⟩
        conv => whnf
        refine ⟨by omega, by omega, ⟨_, h2⟩, ?_⟩
        conv => whnf
        refine ⟨.refl _, ?_⟩
        conv => whnf
        refine stR (L := tl) h2 hk (show 0 + ((k : Nat) : Int).toNat = k by omega) rfl ?_
        obtain ⟨h63, h6n3⟩ := hst.2 id6 _ h6S h6n
        conv => whnf
        (apply Exists.intro; apply And.intro; (first | ((with_reducible (repeat (refine Eq.trans (upd_ne _ ?_) ?_; (first | assumption | (apply Ne.symm; assumption))))); first | exact upd_same _ _ _ | assumption) | ((repeat (refine Eq.trans (upd_ne _ ?_) ?_; (first | assumption | (apply Ne.symm; assumption)))); first | exact upd_same _ _ _ | assumption)); refine ⟨Nat.le_of_ble_eq_true rfl, ?_⟩; conv => whnf)
        (apply Exists.intro; apply And.intro; (first | ((with_reducible (repeat (refine Eq.trans (upd_ne _ ?_) ?_; (first | assumption | (apply Ne.symm; assumption))))); first | exact upd_same _ _ _ | assumption) | ((repeat (refine Eq.trans (upd_ne _ ?_) ?_; (first | assumption | (apply Ne.symm; assumption)))); first | exact upd_same _ _ _ | assumption)); conv => whnf)
        exact Fin.same rfl (.refl _) ⟨rfl, _, hst.1.upd h6n3, (hC.trans hst.2).upd h6⟩
    rw [if_neg h0]
    have h0i : ¬ ((te : Nat) : Int) = 0 := by omega
    by_cases h5 : te = 5
    · subst h5
      rw [if_pos rfl]
      conv => whnf
      refine ⟨fun h => absurd h h0i, fun _ => ?_⟩
      conv => whnf
      refine ⟨fun _ => ?_, fun h => absurd rfl h⟩
      conv => whnf
      refine (hmv (kfull rfl)).mono fun r s2 h => ?_
      obtain ⟨rfl, x2, hm1, hm2⟩ := h
      obtain ⟨h63, h6n3⟩ := hm2 id6 _ h6S h6n
      conv => whnf
      (apply Exists.intro; apply And.intro; (first | ((with_reducible (repeat (refine Eq.trans (upd_ne _ ?_) ?_; (first | assumption | (apply Ne.symm; assumption))))); first | exact upd_same _ _ _ | assumption) | ((repeat (refine Eq.trans (upd_ne _ ?_) ?_; (first | assumption | (apply Ne.symm; assumption)))); first | exact upd_same _ _ _ | assumption)); refine ⟨Nat.le_of_ble_eq_true rfl, ?_⟩; conv => whnf)
      (apply Exists.intro; apply And.intro; (first | ((with_reducible (repeat (refine Eq.trans (upd_ne _ ?_) ?_; (first | assumption | (apply Ne.symm; assumption))))); first | exact upd_same _ _ _ | assumption) | ((repeat (refine Eq.trans (upd_ne _ ?_) ?_; (first | assumption | (apply Ne.symm; assumption)))); first | exact upd_same _ _ _ | assumption)); conv => whnf)
      exact Fin.same rfl (.refl _) ⟨rfl, _, hm1.upd h6n3, (hC.trans hm2).upd h6⟩
    · rw [if_neg h5]
      have h5i : ¬ ((te : Nat) : Int) = 5 := by omega
      conv => whnf
      refine ⟨fun h => absurd h h0i, fun _ => ?_⟩
      conv => whnf
      refine ⟨fun h => absurd h h5i, fun _ => ?_⟩
      conv => whnf
      (apply Exists.intro; apply And.intro; (first | ((with_reducible (repeat (refine Eq.trans (upd_ne _ ?_) ?_; (first | assumption | (apply Ne.symm; assumption))))); first | exact upd_same _ _ _ | assumption) | ((repeat (refine Eq.trans (upd_ne _ ?_) ?_; (first | assumption | (apply Ne.symm; assumption)))); first | exact upd_same _ _ _ | assumption)); refine ⟨Nat.le_of_ble_eq_true rfl, ?_⟩; conv => whnf)
      (apply Exists.intro; apply And.intro; (first | ((with_reducible (repeat (refine Eq.trans (upd_ne _ ?_) ?_; (first | assumption | (apply Ne.symm; assumption))))); first | exact upd_same _ _ _ | assumption) | ((repeat (refine Eq.trans (upd_ne _ ?_) ?_; (first | assumption | (apply Ne.symm; assumption)))); first | exact upd_same _ _ _ | assumption)); conv => whnf)
      exact Fin.same rfl (.refl _) ⟨rfl, _, hS.upd h6n, hC.upd h6⟩
end Go.Proofs.Ytfkkajibaeppbaa.D
namespace Go.Proofs.Ytfkkajibaeppbaa.D
set_option linter.unusedVariables false
set_option linter.unusedSimpArgs false
open Go Go.Proofs.Ytfkkajibaeppbaa.D.Pm
set_option maxRecDepth 4000
abbrev It := Nat × Nat × By
def itC (x : It) : List AC := [.v (.int .i64 x.1), .v (.int .i64 x.2.1), .sl 1 (byl x.2.2)]
def itI (x : It) : List AV := [.g (itC x)]
def itG (n : Nat) (L : List Sl) (s : Nat) : It := (n, s, (gs L s).getD [])
def itL (n : Nat) (L : List Sl) : List It := (slotL 0 L).map (itG n L)
def itH : Nat → Pgs → List It
  | _, [] => []
  | n, L :: r => itL n L ++ itH (n + 1) r
theorem runI_I {σ : Type} {I : Sto → Prop} {Y : σ → Sto → List AV → (Bool → σ → Sto → Prop) → Prop} {items : List (List AV)} {s : σ} {st : Sto} {K : Sto → σ → Prop} (h : runI I Y items s st K) : I st := by
  cases items <;> exact h.1
theorem slotL_gs : ∀ {l : List Sl} {i : Nat}, ∀ n ∈ slotL i l, ∃ d, l[n - i]? = some (some d) ∧ i ≤ n
  | [], i, n, h => by simp [slotL] at h
  | none :: l, i, n, h => by
    have h : n ∈ slotL (i + 1) l := h
    obtain ⟨d, h1, h2⟩ := slotL_gs (l := l) (i := i + 1) n h
    refine ⟨d, ?_, by omega⟩
    rw [show n - i = (n - (i + 1)) + 1 by omega, List.getElem?_cons_succ]
    exact h1
  | some d :: l, i, n, h => by
    rcases List.mem_cons.1 h with h | h
    · subst h
      exact ⟨d, by simp, Nat.le_refl _⟩
    · obtain ⟨d, h1, h2⟩ := slotL_gs (l := l) (i := i + 1) n h
      refine ⟨d, ?_, by omega⟩
      rw [show n - i = (n - (i + 1)) + 1 by omega, List.getElem?_cons_succ]
      exact h1
theorem slot_gs {L : List Sl} {s : Nat} (h : s ∈ slotL 0 L) : ∃ d, gs L s = some d := by
  obtain ⟨d, h1, _⟩ := slotL_gs s h
  refine ⟨d, ?_⟩
  unfold gs
  rw [Nat.sub_zero] at h1
  rw [h1]
  rfl
theorem each_iter {hid : Nat} {Ls : Pgs} {x : AC} (hO : OkH Ls) : IterI Try.prog 69 [.ep [.ptr hid 0]] (fun st => HAt st hid Ls x) ((itH 0 Ls).map itI) := by
  intro σ ln S Y hY s st K hr
  have h64 := hO.2
  refine DoesE.of TP Try.func69 rfl rfl rfl (Nat.le_of_ble_eq_true rfl) ?_
  have hH := runI_I hr
  refine PwE.seq (PwE.pw (Pw.of TP [] ?_))
  conv => whnf
  refine ⟨_, hH.bx, ?_⟩
  conv => whnf
  have hli := hH.li
  cases hli with
  | nil h0 =>
    have hLs : Ls = [] := by
      cases Ls with
      | nil => rfl
      | cons a l => cases h0
    subst hLs
    conv => whnf
    refine PwE.block ?_
    refine PwE.loop (τ := Unit) (fun y => [(14, vI .i64 (0 : Nat)), (13, vI .i64 (0 : Nat))]) (fun y => st) (fun y => s) (fun y => True) (fun y => 0) ⟨(), .mk ⟨rfl, rfl, trivial⟩ (.refl _), rfl, trivial⟩ ?_
    rintro _ _
    refine PwE.seq (PwE.pw (Pw.of TP [] ?_))
    conv => whnf
    refine ⟨fun h => absurd h (by decide), fun _ => ?_⟩
    conv => whnf
    refine PwE.seq (PwE.pw (Pw.of TP [] ?_))
    conv => whnf
    exact hr.2
  | arr pid more n h1 h2 =>
    have hn : n = Ls.length := by rw [h1, ro_length]
    conv => whnf
    refine PwE.block ?_
    refine PwE.loop (τ := Nat × Sto × σ) (fun y => [(14, vI .i64 (y.1 : Nat)), (13, vI .i64 (n : Nat)), (12, .c (.arr pid 0 n)), (0, .c (.yd ln)), (1, .c (.ep [.ptr hid 0]))]) (fun y => y.2.1) (fun y => y.2.2) (fun y => y.1 ≤ Ls.length ∧ runI (fun st => HAt st hid Ls (.arr pid 0 n)) Y ((itH y.1 (Ls.drop y.1)).map itI) y.2.2 y.2.1 K) (fun y => Ls.length - y.1) ⟨(0, st, s), .mk ⟨rfl, rfl, rfl, rfl, rfl, trivial⟩ (.refl _), rfl, Nat.zero_le _, hr⟩ ?_
    rintro ⟨i, st1, s1⟩ ⟨hi, hr1⟩
    dsimp only at hi hr1 ⊢
    refine PwE.seq (PwE.pw (Pw.of TP [] ?_))
    conv => whnf
    refine ⟨fun h => ?_, fun h => ?_⟩ <;> conv => whnf
    · have hi' : i < Ls.length := by omega
      have hH1 := runI_I hr1
      have e1 : Ls.drop i = Ls[i] :: Ls.drop (i + 1) := List.drop_eq_getElem_cons hi'
      rw [e1] at hr1
      have hOk := hO.1 _ (List.getElem_mem hi')
      have hli1 := hH1.li
      cases hli1 with
      | arr _ more1 _ k1 k2 =>
      refine PwE.seq (PwE.pw (Pw.of TP [] ?_))
      conv => whnf
      refine PwE.seq (PwE.block (PwE.seq (PwE.pw (Pw.of TP [] ?_))))
      conv => whnf
      refine ⟨by omega, by omega, ⟨_, k2⟩, ?_⟩
      conv => whnf
      refine ⟨1, _, [pgC Ls[i]], k2, ro_at hi' (by omega), ?_⟩
      conv => whnf
      refine PwE.seq (PwE.pw (Pw.of TP [] ?_))
      conv => whnf
      refine (slots_is hOk).call ?_
      conv => whnf
      have hget := get_is hOk
      have hgs := fun s (h : s ∈ slotL 0 Ls[i]) => slot_gs h
      have hVb : (slotL 0 Ls[i]).length ≤ 100000 := by have := slotL_le Ls[i] 0; have := hOk.len; omega
      generalize Ls[i] = L at hr1 hgs hget hVb
      have hV : itL i L = (slotL 0 L).map (itG i L) := rfl
      simp only [itH] at hr1
      rw [hV] at hr1
      generalize slotL 0 L = V at hr1 hgs hVb
      have hnl : ((nums V).length : Int) = (V.length : Nat) := by simp [nums]
      have hVl : V.length ≤ 100000 := hVb
      refine PwE.block ?_
      refine PwE.loop (τ := Nat × Sto × σ) (fun y => [(22, vI .i64 (y.1 : Nat)), (21, vI .i64 ((nums V).length : Nat)), (20, .c (.sl 1 (nums V))), (4, .c (pgC L)), (3, vI .i64 (i : Nat)), (14, vI .i64 (i : Nat)), (13, vI .i64 (n : Nat)), (12, .c (.arr pid 0 n)), (0, .c (.yd ln)), (1, .c (.ep [.ptr hid 0]))]) (fun y => y.2.1) (fun y => y.2.2) (fun y => y.1 ≤ V.length ∧ runI (fun st => HAt st hid Ls (.arr pid 0 n)) Y (((V.drop y.1).map (itG i L) ++ itH (i + 1) (Ls.drop (i + 1))).map itI) y.2.2 y.2.1 K) (fun y => V.length - y.1) ⟨(0, st1, s1), .mk ⟨rfl, rfl, rfl, rfl, rfl, rfl, rfl, rfl, rfl, rfl, trivial⟩ (.refl _), rfl, Nat.zero_le _, hr1⟩ ?_
      clear hr1 hH1 k2
      rintro ⟨j, st2, s2⟩ ⟨hj, hr2⟩
      dsimp only at hj hr2 ⊢
      refine PwE.seq (PwE.pw (Pw.of TP [] ?_))
      conv => whnf
      refine ⟨fun h => ?_, fun h => ?_⟩ <;> conv => whnf
      · have hj' : j < V.length := by omega
        have e2 : V.drop j = V[j] :: V.drop (j + 1) := List.drop_eq_getElem_cons hj'
        rw [e2] at hr2
        obtain ⟨d, hd⟩ := hgs V[j] (List.getElem_mem hj')
        have hget2 := hget (V[j] : Int)
        rw [getS_gs, hd] at hget2
        have hit : itG i L V[j] = (i, V[j], d) := by unfold itG; rw [hd]; rfl
        rw [List.map_cons, List.cons_append, List.map_cons, hit] at hr2
        refine PwE.seq (PwE.pw (Pw.of TP [] ?_))
        conv => whnf
        refine PwE.seq (PwE.block (PwE.seq (PwE.pw (Pw.of TP [] ?_))))
        conv => whnf
        refine ixm (l := V) (f := fun n : Nat => [AC.v (.int .i64 (n : Int))]) hj' ?_
        conv => whnf
        refine PwE.seq (PwE.pw (Pw.of TP [] ?_))
        conv => whnf
        refine hget2.call ?_
        conv => whnf
        refine PwE.seq (PwE.region TP (spY_ok hY) ?_)
        conv => whnf
        refine .inr ?_
        conv => whnf
        refine .inr ?_
        conv => whnf
        refine .inr ?_
        conv => whnf
        refine .inr ?_
        conv => whnf
        refine .inr ?_
        conv => whnf
        refine .inr ?_
        conv => whnf
        refine .inl ⟨rfl, _, _, _, itI (i, V[j], d), rfl, rfl, rfl, hY.mono (fun b s3 st3 hk => ?_) hr2.2⟩
        cases b
        · rw [if_neg (by decide)] at hk
          refine .inr ?_
          conv => whnf
          refine PwE.pw (Pw.of TP [] ?_)
          conv => whnf
          exact hk
        · rw [if_pos rfl] at hk
          refine .inr ?_
          conv => whnf
          refine PwE.pw (Pw.of TP [] ?_)
          conv => whnf
          refine PwE.pw (Pw.of TP [] ?_)
          conv => whnf
          exact ⟨(j + 1, st3, s3), .mk ⟨congrArg (fun x => some (vI .i64 x)) (wrap_nat (n := 100000) (by omega) (by decide)), rfl, rfl, rfl, rfl, rfl, rfl, rfl, rfl, rfl, trivial⟩ (.refl _), rfl, ⟨hj', hk⟩, by dsimp only; omega⟩
      · have hj' : j = V.length := by omega
        refine PwE.seq (PwE.pw (Pw.of TP [] ?_))
        conv => whnf
        refine PwE.pw (Pw.of TP [] ?_)
        conv => whnf
        subst hj'
        rw [List.drop_length] at hr2
        exact ⟨(i + 1, st2, s2), .mk ⟨congrArg (fun x => some (vI .i64 x)) (wrap_nat (n := 64) (by omega) (by decide)), rfl, rfl, rfl, rfl, trivial⟩ (.refl _), rfl, ⟨hi', hr2⟩, by dsimp only; omega⟩
    · have hi' : i = Ls.length := by omega
      refine PwE.seq (PwE.pw (Pw.of TP [] ?_))
      conv => whnf
      subst hi'
      rw [List.drop_length] at hr1
      exact hr1.2
end Go.Proofs.Ytfkkajibaeppbaa.D
namespace Go.Proofs.Ytfkkajibaeppbaa.D
set_option linter.unusedVariables false
set_option linter.unusedSimpArgs false
open Go Go.Proofs.Ytfkkajibaeppbaa.D.Pm
set_option maxRecDepth 4000
theorem each_is (hid : Nat) : Is Try.prog 56 [.c (.ptr hid 0)] (.c (.fn 69 [.ep [.ptr hid 0]])) := by
  refine Is.of TP Try.func56 rfl rfl (Nat.le_of_ble_eq_true rfl) fun st => Pw.of TP [] ?_
  conv => whnf
  exact Fin.pure
theorem HAt.le {s s' : Sto} {hid : Nat} {Ls : Pgs} {x : AC} (h : HAt s hid Ls x) (k : Le s s') : HAt s' hid Ls x := ⟨k _ _ h.bx, h.li.mono fun i l o e ho => k _ _ ho⟩
theorem itL_le (n : Nat) (L : List Sl) : (itL n L).length ≤ L.length := by
  unfold itL; rw [List.length_map]; exact slotL_le L 0
theorem itH_le : ∀ {Ls : Pgs} {n : Nat}, (∀ L ∈ Ls, Ok L) → (itH n Ls).length ≤ 255 * Ls.length
  | [], n, h => Nat.le_refl _
  | L :: r, n, h => by
    have h1 := itL_le n L
    have h2 := (h L (List.mem_cons_self ..)).len
    have h3 := itH_le (Ls := r) (n := n + 1) fun M hM => h M (List.mem_cons_of_mem _ hM)
    simp only [itH, List.length_append, List.length_cons]
    omega
theorem OkH.its {Ls : Pgs} (hO : OkH Ls) : (itH 0 Ls).length ≤ 16320 := by
  have := itH_le (n := 0) hO.1
  have := hO.2
  omega
theorem hlen_does {st : Sto} {hid : Nat} {Ls : Pgs} {x : AC} (hH : HAt st hid Ls x) (hO : OkH Ls) : Does Try.prog 33 [.c (.ptr hid 0)] st fun r s => r = vI .i64 ((itH 0 Ls).length : Nat) ∧ s = st := by
  have hb := hO.its
  refine Does.of TP Try.func33 rfl rfl (Nat.le_of_ble_eq_true rfl) (Pw.of TP [1000003] ?_)
  conv => whnf
  refine (dead_no hH).go ?_
  conv => whnf
  intro id3 h3
  conv => whnf
  (apply Exists.intro; apply And.intro; (first | ((with_reducible (repeat (refine Eq.trans (upd_ne _ ?_) ?_; (first | assumption | (apply Ne.symm; assumption))))); first | exact upd_same _ _ _ | assumption) | ((repeat (refine Eq.trans (upd_ne _ ?_) ?_; (first | assumption | (apply Ne.symm; assumption)))); first | exact upd_same _ _ _ | assumption)); refine ⟨Nat.le_of_ble_eq_true rfl, ?_⟩; conv => whnf)
  refine (each_is hid).call ?_
  conv => whnf
  refine Pw.rangeFuncI rfl (each_iter (x := x) hO) fun ln => ?_
  generalize itH 0 Ls = T at hb
  refine roundsI_of itI (fun r s => Le st s ∧ ∃ k : Nat, s id3 = some (.bx [.v (.int .i64 (k : Int))]) ∧ r.length + k = T.length) ?_ ?_ ?_ _ _ ⟨by (first | (with_reducible (iterate 24 (try any_goals (first | exact Le.refl _ | assumption | apply Le.up2))); done) | (iterate 24 (try any_goals (first | exact Le.refl _ | assumption | apply Le.up2)))), 0, upd_same _ _ _, rfl⟩
  · rintro r s ⟨hle, _⟩
    exact hH.le hle
  · rintro s ⟨hle, k, h1, h2⟩
    conv => whnf
    (apply Exists.intro; apply And.intro; (first | ((with_reducible (repeat (refine Eq.trans (upd_ne _ ?_) ?_; (first | assumption | (apply Ne.symm; assumption))))); first | exact upd_same _ _ _ | assumption) | ((repeat (refine Eq.trans (upd_ne _ ?_) ?_; (first | assumption | (apply Ne.symm; assumption)))); first | exact upd_same _ _ _ | assumption)); conv => whnf)
    refine Fin.old (congrArg (fun n : Nat => vI .i64 (n : Int)) ?_) hle
    simpa using h2
  · rintro y r s ⟨hle, k, h1, h2⟩
    refine ⟨rfl, Pw.of TP [] ?_⟩
    conv => whnf
    refine ⟨rfl, Pw.of TP [] ?_⟩
    conv => whnf
    (apply Exists.intro; apply And.intro; (first | ((with_reducible (repeat (refine Eq.trans (upd_ne _ ?_) ?_; (first | assumption | (apply Ne.symm; assumption))))); first | exact upd_same _ _ _ | assumption) | ((repeat (refine Eq.trans (upd_ne _ ?_) ?_; (first | assumption | (apply Ne.symm; assumption)))); first | exact upd_same _ _ _ | assumption)); conv => whnf)
    rw [wrap_nat (i := k) (n := 16320) (by simp at h2; omega) (by decide)]
    (apply Exists.intro; apply And.intro; (first | ((with_reducible (repeat (refine Eq.trans (upd_ne _ ?_) ?_; (first | assumption | (apply Ne.symm; assumption))))); first | exact upd_same _ _ _ | assumption) | ((repeat (refine Eq.trans (upd_ne _ ?_) ?_; (first | assumption | (apply Ne.symm; assumption)))); first | exact upd_same _ _ _ | assumption)); refine ⟨Nat.le_of_ble_eq_true rfl, ?_⟩; conv => whnf)
    exact ⟨by (first | (with_reducible (iterate 24 (try any_goals (first | exact Le.refl _ | assumption | apply Le.up2))); done) | (iterate 24 (try any_goals (first | exact Le.refl _ | assumption | apply Le.up2)))), k + 1, upd_same _ _ _, by simp at h2 ⊢; omega⟩
theorem hall_does {st : Sto} {hid : Nat} {Ls : Pgs} {x : AC} (hH : HAt st hid Ls x) (hO : OkH Ls) : Does Try.prog 30 [.c (.ptr hid 0)] st fun r s => r = .c (.sl 3 ((itH 0 Ls).map itC)) ∧ s = st := by
  have hb := hO.its
  refine Does.of TP Try.func30 rfl rfl (Nat.le_of_ble_eq_true rfl) (Pw.of TP [] ?_)
  conv => whnf
  refine (dead_no hH).go ?_
  conv => whnf
  intro id3 h3
  conv => whnf
  refine (each_is hid).call ?_
  conv => whnf
  refine Pw.rangeFuncI rfl (each_iter (x := x) hO) fun ln => ?_
  generalize itH 0 Ls = T at hb
  refine roundsI_of itI (fun r s => ∃ a done, s id3 = some (.bx [a]) ∧ Grow st 3 s a (done.map itC) ∧ done ++ r = T) ?_ ?_ ?_ _ _ ⟨_, [], upd_same _ _ _, Grow.nilb h3, rfl⟩
  · rintro r s ⟨a, done, h1, h2, h4⟩
    exact hH.le h2.le
  · rintro s ⟨a, done, h1, h2, h4⟩
    conv => whnf
    (apply Exists.intro; apply And.intro; (first | ((with_reducible (repeat (refine Eq.trans (upd_ne _ ?_) ?_; (first | assumption | (apply Ne.symm; assumption))))); first | exact upd_same _ _ _ | assumption) | ((repeat (refine Eq.trans (upd_ne _ ?_) ?_; (first | assumption | (apply Ne.symm; assumption)))); first | exact upd_same _ _ _ | assumption)); conv => whnf)
    have : done = T := by simpa using h4
    subst this
    exact Fin.grow h2 (fun r hr => by obtain ⟨n, _, rfl⟩ := List.mem_map.1 hr; rfl) ⟨rfl, rfl⟩
  · rintro y r s ⟨a, done, h1, h2, h4⟩
    have hd : done.length + 1 ≤ 16320 := by have := congrArg List.length h4; simp at this; omega
    refine ⟨rfl, Pw.of TP [] ?_⟩
    conv => whnf
    refine ⟨rfl, Pw.of TP [] ?_⟩
    conv => whnf
    (apply Exists.intro; apply And.intro; (first | ((with_reducible (repeat (refine Eq.trans (upd_ne _ ?_) ?_; (first | assumption | (apply Ne.symm; assumption))))); first | exact upd_same _ _ _ | assumption) | ((repeat (refine Eq.trans (upd_ne _ ?_) ?_; (first | assumption | (apply Ne.symm; assumption)))); first | exact upd_same _ _ _ | assumption)); conv => whnf)
    refine h2.app (by simp; unfold maxLen; omega) (by simp; omega) fun a' s' hg hk => ?_
    have hb2 := h2.keptb h1 hk
    conv => whnf
    (apply Exists.intro; apply And.intro; (first | ((with_reducible (repeat (refine Eq.trans (upd_ne _ ?_) ?_; (first | assumption | (apply Ne.symm; assumption))))); first | exact upd_same _ _ _ | assumption) | ((repeat (refine Eq.trans (upd_ne _ ?_) ?_; (first | assumption | (apply Ne.symm; assumption)))); first | exact upd_same _ _ _ | assumption)); refine ⟨Nat.le_of_ble_eq_true rfl, ?_⟩; conv => whnf)
    exact ⟨a', done ++ [y], upd_same _ _ _, by rw [show (done ++ [y]).map itC = done.map itC ++ [itC y] by simp]; exact hg.box (cs' := [a']) hb2 h3, by rw [← h4]; simp⟩
theorem clone_is {p : By} (hl : p.length ≤ 100000) : Is Try.prog 47 [.c (.sl 1 (byl p))] (.c (.sl 1 (byl p))) := by
  refine Is.of TP Try.func47 rfl rfl (Nat.le_of_ble_eq_true rfl) fun st => Pw.of TP [1000005] ?_
  conv => whnf
  intro b hb
  cases b
  · conv => whnf
    intro id hid
    conv => whnf
    refine ⟨rfl, [], upd_same _ _ _, Nat.le_refl _, (by rw [byl_length]; unfold maxLen; omega), (by rw [byl_length]; dsimp only; omega), fun id2 h2 => ?_⟩
    conv => whnf
    have hid2 : st id2 = none := by
      unfold upd at h2
      by_cases e : id2 = id
      · rw [e]; exact hid
      · rw [if_neg e] at h2; exact h2
    refine Fin.grow (sz := 1) (rows := byl p) ⟨?_, .inr ⟨id2, ?_, ?_, hid2⟩⟩ byl_row ⟨rfl, rfl⟩
    · refine Le.up2 (Le.dl (Le.up (.refl _) hid) hid) hid2
    · simp
    · simp [upd]
  · conv => whnf
    have h0 : byl p = [] := by
      cases h : byl p with
      | nil => rfl
      | cons a l =>
        have := hb (by rw [h]; simp)
        cases this
    refine Fin.grow (sz := 1) (rows := byl p) ?_ byl_row ⟨rfl, rfl⟩
    rw [h0]
    exact .nil (.refl _)
theorem hpages_does {st : Sto} {hid : Nat} {Ls : Pgs} {x : AC} (hH : HAt st hid Ls x) (hO : OkH Ls) : Does Try.prog 39 [.c (.ptr hid 0)] st fun r s => r = .c (.sl 1 (ro pgC Ls)) ∧ s = st := by
  have h64 := hO.2
  refine Does.of TP Try.func39 rfl rfl (Nat.le_of_ble_eq_true rfl) (Pw.of TP [] ?_)
  conv => whnf
  refine (dead_no hH).go ?_
  conv => whnf
  refine ⟨_, hH.bx, ?_⟩
  conv => whnf
  have hli := hH.li
  cases hli with
  | nil h0 =>
    conv => whnf
    refine Pw.rng (τ := Unit) 13 0 (by decide) [3, 12] (fun _ => []) (fun k _ => True) () rfl trivial trivial fun k _ hk hf => Pw.of TP [] ?_
    conv => whnf
    refine ⟨fun hk1 => ?_, fun hk1 => ?_⟩ <;> conv => whnf
    · exfalso
      omega
    · refine Fin.grow (sz := 1) (rows := ro pgC Ls) ?_ (fun r hr => by rw [h0] at hr; cases hr) ⟨rfl, rfl⟩
      rw [h0]
      exact .nil (.refl _)
  | arr pid more n h1 h2 =>
    have hn : n = Ls.length := by rw [h1, ro_length]
    conv => whnf
    refine Pw.rngS (τ := AC × Sto) 13 n (by unfold Big; omega) [11, 12] (fun _ y => [(3, .c y.1)]) (fun _ y => y.2) (fun i y => Grow st 1 y.2 y.1 (ro pgC (Ls.take i))) (_, st) rfl ⟨rfl, trivial⟩ (.refl _) (.nil (.refl _)) ?_
    rintro k ⟨a, s⟩ hk hg
    dsimp only at hg ⊢
    refine Pw.of TP [] ?_
    conv => whnf
    refine ⟨fun hk1 => ?_, fun hk1 => ?_⟩ <;> conv => whnf
    · have hk1 : k < n := by omega
      have hkl : k < Ls.length := by omega
      have h2s := hg.le _ _ h2
      refine ⟨by omega, by omega, ⟨_, h2s⟩, ?_⟩
      conv => whnf
      refine ⟨1, _, [pgC Ls[k]], h2s, ro_at hkl (by omega), ?_⟩
      conv => whnf
      have hOk := hO.1 _ (List.getElem_mem hkl)
      have htk : ro pgC (Ls.take (k + 1)) = ro pgC (Ls.take k) ++ [[pgC Ls[k]]] := by unfold ro; rw [List.take_succ_eq_append_getElem hkl, List.map_append]; rfl
      refine (clone_is (p := pg Ls[k]) (by rw [pg_length hOk.fit]; decide)).call ?_
      conv => whnf
      refine hg.app (by simp [ro]; unfold maxLen; omega) (by simp [ro]; omega) fun a' s' hg' hk' => ?_
      conv => whnf
      exact ⟨hk1, rfl, ⟨rfl, rfl, trivial⟩, (a', s'), ⟨rfl, trivial⟩, .refl _, by rw [htk]; exact hg'⟩
    · have hkn : k = Ls.length := by omega
      subst hkn
      rw [List.take_length] at hg
      exact Fin.grow hg (fun r hr => by obtain ⟨n, _, rfl⟩ := List.mem_map.1 hr; rfl) ⟨rfl, rfl⟩
end Go.Proofs.Ytfkkajibaeppbaa.D
