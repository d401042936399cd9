/- Words and contracts: a plain machine over the model, and what the functions that a law reaches come to, each for every input that its theorem names. -/
import Derived.Test.YtbmgenifdlgbmaaGreatV0
import Derived.LoopN
import Derived.Scope
namespace Go.Proofs.YtbmgenifdlgbmaaGreat.D.Pm
set_option linter.unusedVariables false
set_option linter.unusedSimpArgs false
open Go
/-! ### how a cell may be seen, once the objects of D no longer change -/
inductive Fz (D : Nat → Bool) (st : Sto) : AC → AC → Prop
  | refl (c : AC) : Fz D st c c
  | nil (sz : Nat) : Fz D st (.v (.slice none 0 0)) (.sl sz [])
  | ptr (id off : Nat) (cs : List AC) (hd : D id = true) (hs : st id = some (.bx cs)) : Fz D st (.ptr id off) (.ep (cs.drop off))
  | arr (id off len sz : Nat) (rows ys : List (List AC)) (hd : D id = true) (hs : st id = some (.ar sz rows)) (hl : off + len ≤ rows.length) (hy : ys.length = len) (hr : ∀ (i : Nat) r, ys[i]? = some r → r.length = sz)
      (h : ∀ (i : Nat) r r' (j : Nat) c c', rows[off + i]? = some r → ys[i]? = some r' → r[j]? = some c → r'[j]? = some c' → Fz D st c c') : Fz D st (.arr id off len) (.sl sz ys)
  | sl (sz : Nat) (xs ys : List (List AC)) (hl : ys.length = xs.length) (hr : ∀ (i : Nat) r, ys[i]? = some r → r.length = sz)
      (h : ∀ (i : Nat) r r' (j : Nat) c c', xs[i]? = some r → ys[i]? = some r' → r[j]? = some c → r'[j]? = some c' → Fz D st c c') : Fz D st (.sl sz xs) (.sl sz ys)
/-- the ghosts, once the objects of D no longer change -/
def Gh.frz (G : Gh) (D : Nat → Bool) (st : Sto) (w : World) : Gh :=
  ⟨G.U, G.R, fun i => if D i = true then none else G.b i, fun k => G.X k ∨ ∃ i o sz, D i = true ∧ st i = some o ∧ G.b i = some (k, sz), G.B⟩
theorem frz_b {G : Gh} {D : Nat → Bool} {st : Sto} {w : World} (i : Nat) : (G.frz D st w).b i = none ∨ (D i = false ∧ (G.frz D st w).b i = G.b i) := by
  by_cases h : D i = true
  · left; show (if D i = true then none else G.b i) = none; rw [if_pos h]
  · right; exact ⟨by simpa using h, by show (if D i = true then none else G.b i) = _; rw [if_neg h]⟩
theorem Ext.frz (G : Gh) (D : Nat → Bool) (st : Sto) (w : World) : Ext G w (G.frz D st w) w :=
  ⟨⟨Nat.le_refl _, fun _ h => h, fun _ h => .inl h, fun _ _ => rfl, fun i _ => (frz_b i).imp id (fun h => h.2), fun _ _ _ _ _ cs e h => ⟨cs, h, rfl⟩⟩, fun _ h => h, fun _ _ h => h, ⟨rfl, rfl, rfl⟩, rfl⟩
theorem Inv.frz {G : Gh} {w : World} {st st' : Sto} (hI : Inv G w st) (D : Nat → Bool) (h : ∀ id o, st' id = some o → st id = some o ∧ D id = false) : Inv (G.frz D st w) w st' where
  obj := fun id o ho => by
    obtain ⟨h1, h2⟩ := h id o ho
    obtain ⟨g, sz, cs, e, a, b, c, d, f, k⟩ := hI.obj id o h1
    refine ⟨g, sz, cs, e, a, ?_, c, d, f, fun j x v p q => (k j x v p q).ext (Ext.frz G D st w)⟩
    show (if D id = true then none else G.b id) = _
    rw [if_neg (by simp [h2])]; exact b
  lt := fun id g sz hb => by
    rcases frz_b (G := G) (D := D) (st := st) (w := w) id with h1 | ⟨h0, h1⟩
    · rw [h1] at hb; cases hb
    · rw [h1] at hb
      obtain ⟨a, b, c⟩ := hI.lt id g sz hb
      refine ⟨a, b, fun hX => ?_⟩
      rcases hX with hX | ⟨i, o, z, hd, _, hi⟩
      · exact c hX
      · have e := hI.inj _ _ _ _ _ hi hb
        rw [e, h0] at hd
        cases hd
  inj := fun id id' g sz sz' h1 h2 => by
    rcases frz_b (G := G) (D := D) (st := st) (w := w) id with a | ⟨_, a⟩
    · rw [a] at h1; cases h1
    · rcases frz_b (G := G) (D := D) (st := st) (w := w) id' with b | ⟨_, b⟩
      · rw [b] at h2; cases h2
      · rw [a] at h1; rw [b] at h2; exact hI.inj _ _ _ _ _ h1 h2
  X := fun k hk => by
    rcases hk with hk | ⟨i, o, z, _, _, hi⟩
    · exact hI.X k hk
    · exact (hI.lt _ _ _ hi).2.1
  new := hI.new
theorem Fz.ok {G : Gh} {w : World} {st : Sto} (hI : Inv G w st) {D : Nat → Bool} {c c' : AC} (h : Fz D st c c') : ∀ {v : Value}, RC G w c v → RC (G.frz D st w) w c' v := by
  induction h with
  | refl c => exact fun h => h.ext (Ext.frz G D st w)
  | nil sz => intro v h; cases h; exact .sl sz [] none 0 0 (fun _ _ => undef) rfl (Nat.le_refl _) (Nat.zero_le _) (fun i cs h => by simp at h) 0 0 (fun h => absurd h (Nat.lt_irrefl _)) (fun i cs j c h => by simp at h) (fun i cs j c h => by simp at h)
  | ptr id off cs hd hs =>
    intro v hv
    cases hv with
    | ptr _ _ A hU ha =>
      obtain ⟨g, z, us, e, hU', hb, hw, _, hcl, hrel⟩ := hI.obj id _ hs
      have hA := ha g _ hb
      subst hA
      have hlt : ∀ (j : Nat) c, (cs.drop off)[j]? = some c → ∃ u, us[off + j]? = some u ∧ RC G w c u := fun j c hj => by
        rw [List.getElem?_drop] at hj
        have h1 : off + j < us.size := Nat.lt_of_lt_of_le (List.getElem?_eq_some_iff.1 hj).1 hcl
        exact ⟨_, Array.getElem?_eq_getElem h1, hrel _ _ _ hj (Array.getElem?_eq_getElem h1)⟩
      refine .ep _ g off (fun j => (us[off + j]?).getD undef) (.inr ⟨id, _, z, hd, hs, hb⟩) (fun j c hj => ?_) (fun j c hj => ?_)
      · obtain ⟨u, hu, _⟩ := hlt j c hj
        rw [cell_of hw, hu]; rfl
      · obtain ⟨u, hu, hr⟩ := hlt j c hj
        rw [hu]; exact hr.ext (Ext.frz G D st w)
  | arr id off len sz rows ys hd hs hl hy hr h ih =>
    intro v hv
    cases hv with
    | arr _ _ _ A cap hU hc hm ha =>
      obtain ⟨g, z, cs, e, hU', hb, hw, ⟨hz, hrows⟩, hcl, hrel⟩ := hI.obj id _ hs
      subst hz
      obtain ⟨cs2, e2, hw2, hA, hcap⟩ := ha g _ hb
      have hlt : ∀ (i : Nat) r (j : Nat) c, ys[i]? = some r → r[j]? = some c → ∃ r0 c0, rows[off + i]? = some r0 ∧ r0[j]? = some c0 ∧ ∃ x, cs[(off + i) * sz + j]? = some x ∧ RC G w c0 x := fun i r j c h1 h2 => by
        have hi : i < len := by rw [← hy]; exact (List.getElem?_eq_some_iff.1 h1).1
        have hj : j < sz := by rw [← hr i r h1]; exact (List.getElem?_eq_some_iff.1 h2).1
        have h3 : rows[off + i]? = some rows[off + i] := List.getElem?_eq_getElem (by omega)
        have h4 : rows[off + i].length = sz := hrows _ (List.getElem_mem ..)
        have h5 : rows[off + i][j]? = some rows[off + i][j] := List.getElem?_eq_getElem (by omega)
        have h6 := flat_at hrows h3 h5
        have h7 : (off + i) * sz + j < cs.size := Nat.lt_of_lt_of_le (List.getElem?_eq_some_iff.1 h6).1 hcl
        exact ⟨_, _, h3, h5, _, Array.getElem?_eq_getElem h7, hrel _ _ _ h6 (Array.getElem?_eq_getElem h7)⟩
      refine .sl sz ys A len cap (fun i j => (cs[(off + i) * sz + j]?).getD undef) hy.symm hc hm hr g (off * sz) (fun hp => ?_) (fun i r j c h1 h2 => ?_) (fun i r j c h1 h2 => ?_)
      · exact ⟨by rcases hA with h | h; omega; exact h, .inr ⟨id, _, sz, hd, hs, hb⟩⟩
      · obtain ⟨r0, c0, _, _, x, hx, _⟩ := hlt i r j c h1 h2
        rw [cell_of hw, show off * sz + (i * sz + j) = (off + i) * sz + j by rw [Nat.add_mul]; omega, hx]
        rfl
      · obtain ⟨r0, c0, h3, h4, x, hx, hxr⟩ := hlt i r j c h1 h2
        rw [hx]
        exact ih i r0 r j c0 c h3 h1 h4 h2 hxr
  | sl sz xs ys hl hr h ih =>
    intro v hv
    cases hv with
    | sl _ _ A len cap vs hll hc hm hs g o ha hcell hh =>
      have hlt : ∀ (i : Nat) r (j : Nat) c, ys[i]? = some r → r[j]? = some c → ∃ r0 c0, xs[i]? = some r0 ∧ r0[j]? = some c0 := fun i r j c h1 h2 => by
        have hi : i < xs.length := by rw [← hl]; exact (List.getElem?_eq_some_iff.1 h1).1
        have hj : j < sz := by rw [← hr i r h1]; exact (List.getElem?_eq_some_iff.1 h2).1
        have h3 : xs[i]? = some xs[i] := List.getElem?_eq_getElem hi
        have h4 := hs i _ h3
        exact ⟨_, _, h3, List.getElem?_eq_getElem (by omega)⟩
      refine .sl sz ys A len cap vs (by omega) hc hm hr g o (fun hp => ⟨(ha hp).1, .inl (ha hp).2⟩) (fun i r j c h1 h2 => ?_) (fun i r j c h1 h2 => ?_)
      · obtain ⟨r0, c0, h3, h4⟩ := hlt i r j c h1 h2
        exact hcell i r0 j c0 h3 h4
      · obtain ⟨r0, c0, h3, h4⟩ := hlt i r j c h1 h2
        exact ih i r0 r j c0 c h3 h1 h4 h2 (hh i r0 j c0 h3 h4)
/-- the same of values -/
inductive FV (D : Nat → Bool) (st : Sto) : AV → AV → Prop
  | refl (r : AV) : FV D st r r
  | c (x y : AC) (h : Fz D st x y) : FV D st (.c x) (.c y)
  | g (xs ys : List AC) (hl : ys.length = xs.length) (h : ∀ (j : Nat) c c', xs[j]? = some c → ys[j]? = some c' → Fz D st c c') : FV D st (.g xs) (.g ys)
  | t (xs ys : List AV) (hl : ys.length = xs.length) (h : ∀ (j : Nat) c c', xs[j]? = some c → ys[j]? = some c' → FV D st c c') : FV D st (.t xs) (.t ys)
theorem FV.ok {G : Gh} {w : World} {st : Sto} (hI : Inv G w st) {D : Nat → Bool} {c c' : AV} (h : FV D st c c') : ∀ {v : Value}, RV G w c v → RV (G.frz D st w) w c' v := by
  induction h with
  | refl c => exact fun h => h.ext (Ext.frz G D st w)
  | c x y h => intro v hv; cases hv with | c _ _ hv => exact .c _ _ (h.ok hI hv)
  | g xs ys hl h =>
    intro v hv
    cases hv with
    | g _ vs hvl hh =>
      refine .g ys vs (by omega) (fun j c v h1 h2 => ?_)
      have hlt : j < xs.length := by rw [← hl]; exact (List.getElem?_eq_some_iff.1 h1).1
      exact (h j _ c (List.getElem?_eq_getElem hlt) h1).ok hI (hh j _ v (List.getElem?_eq_getElem hlt) h2)
  | t xs ys hl h ih =>
    intro v hv
    cases hv with
    | t _ vs hvl hh =>
      refine .t ys vs (by omega) (fun j c v h1 h2 => ?_)
      have hlt : j < xs.length := by rw [← hl]; exact (List.getElem?_eq_some_iff.1 h1).1
      exact ih j _ c (List.getElem?_eq_getElem hlt) h1 (hh j _ v (List.getElem?_eq_getElem hlt) h2)
/-! ### code -/
section
variable (P : Program) (T : TT) (N : Nat) {ρ : Option Nat}
structure Pw (c : Code) (Q : Exit → Env → Sto → Prop) (env : Env) (st : Sto) : Prop where
  mk ::
  out : ∀ G w a, Inv G w st → RE N G w env a → c.wpIn (fen ρ) 7 P (fun e a' w' => ∃ G' env' st', Q e env' st' ∧ Ext G w G' w' ∧ Inv G' w' st' ∧ RE N G' w' env' a') a w
/-- the slots as they may be seen -/
def EV (D : Nat → Bool) (st : Sto) (env : Env) : Env → Prop
  | [] => True
  | (t, r') :: rest => (∃ r, look env t = some r ∧ FV D st r r') ∧ EV D st env rest
/-- a box, or a variable with its first value, that no one writes to any more -/
def vopF (S : List Nat) (o : Oper) (env : Env) (st : Sto) (K : AV → Sto → Prop) : Prop :=
  match o.op with
  | .box _ x => match o.dst with
    | some d => match S.elem (1000000 + d) with
      | true => vop P T env st o.op K
      | false => onO (ev env x) fun r => ntup r (K (.c (.ep (avc r))) st)
    | none => vop P T env st o.op K
  | .buildSlice t n ps => match o.dst with
    | some d => match S.elem (1000000 + d) with
      | true => vop P T env st o.op K
      | false => onO (parts env ps.toList) fun ps => onO (T t) fun i => slE i.d fun e => onO (T e) fun z => if n * z.size ≤ 16777216 ∧ n ≤ maxLen then
          onO (fillR z.size (List.replicate n (z.z.map .v)) ps) fun rows => K (.c (.sl z.size rows)) st else False
    | none => vop P T env st o.op K
  | op => vop P T env st op K
def pair (S : List Nat) (o o2 : Oper) : Option (Nat × TypeId × Operand) :=
  match o.dst, o.op, o.guard, o2.dst, o2.op, o2.guard with
  | some d, .alloc t, none, none, .store t' (.tmp d') x, none => match decide (d = d') && decide (t = t') && decide (d < N) && !(match x with | .tmp y => decide (y = d) | _ => false) && !S.elem (1000000 + d) with
    | true => some (d, t, x)
    | false => none
  | _, _, _, _, _, _ => none
def vgo (S : List Nat) (ops : Array Oper) (o : Oper) (env : Env) (st : Sto) (K : Env → Sto → Prop) : Prop :=
  match o.guard with
  | none => vopF P T S o env st fun r st => K (put N env o.dst r) st
  | some (j, want) => onO ((ops[j]?).bind (·.dst)) fun d => onO (look env d) fun r => onG r (K (put N env o.dst (.t [])) st) fun b =>
      if b = want then vopF P T S o env st fun r st => K (put N env o.dst r) st
      else K (put N env o.dst (.t [])) st
def vops (S : List Nat) (ops : Array Oper) : List Oper → Env → Sto → (Env → Sto → Prop) → Prop
  | [], env, st, Q => Q env st
  | [o], env, st, Q => vgo P T N S ops o env st Q
  | o :: o2 :: rest, env, st, Q => match pair N S o o2 with
    | some (d, t, x) => onO (ev env x) fun r => onO (T t) fun i => ntup r (if (avc r).length = i.size then vops S ops rest (put N env (some d) (.c (.ep (avc r)))) st Q else False)
    | none => vgo P T N S ops o env st fun env st => vops S ops (o2 :: rest) env st Q
/-- the region with which a code begins -/
def first : Code → Option Nat
  | .region id _ _ => some id
  | .seq a _ => first a
  | .block _ b => first b
  | .loop b => first b
  | _ => none
def inS (S : List Nat) : Option Nat → Bool
  | some i => S.elem i
  | none => false
/-- code is gone through up to loops, draws and the regions of S -/
def vcode (S : List Nat) : Code → (Exit → Env → Sto → Prop) → Env → Sto → Prop
  | .skip, Q, env, st => Q .normal env st
  | .region _ ops false, Q, env, st => vops P T N S ops ops.toList env st (Q .normal)
  | .seq a b, Q, env, st => vcode S a (fun e env st => match e with | .normal => (match inS S (first b) with | true => Pw (ρ := ρ) P N b Q env st | false => vcode S b Q env st) | e => Q e env st) env st
  | .cond c x y, Q, env, st => onO (ev env c) fun r => onT r fun b => match b with
    | true => (match inS S (first x) with | true => Pw (ρ := ρ) P N x Q env st | false => vcode S x Q env st)
    | false => (match inS S (first y) with | true => Pw (ρ := ρ) P N y Q env st | false => vcode S y Q env st)
  | .block id b, Q, env, st => vcode S b (fun e env st => match e with | .exit i => if i = id then Q .normal env st else Q (.exit i) env st | e => Q e env st) env st
  | .exit id, Q, env, st => Q (.exit id) env st
  | .ret, Q, env, st => Q .ret env st
  | .label _, Q, env, st => Q .normal env st
  | .goto l, Q, env, st => Q (.goto l) env st
  | .scope x, Q, env, st => match ρ with
    | none => vcode S x (fun e env st => match e with | .goto l => onO (findLabel x l) fun rest => Pw (ρ := ρ) P N rest (fun e env st => match e with | .goto _ => False | e => Q e env st) env st | e => Q e env st) env st
    | some _ => False
  | c, Q, env, st => Pw (ρ := ρ) P N c Q env st
end
variable {P : Program} {T : TT} {N : Nat} {ρ : Option Nat}
theorem Pw.mono {c : Code} {Q Q' : Exit → Env → Sto → Prop} {env : Env} {st : Sto} (h : Pw (ρ := ρ) P N c Q env st) (hq : ∀ e env st, Q e env st → Q' e env st) : Pw (ρ := ρ) P N c Q' env st :=
  ⟨fun G w a hI hE => wpIn_mono (h.out G w a hI hE) fun e a' w' ⟨G', env', st', h1, h2⟩ => ⟨G', env', st', hq _ _ _ h1, h2⟩⟩
theorem EV.ok {G : Gh} {w : World} {st : Sto} (hI : Inv G w st) {D : Nat → Bool} {env : Env} {a : Act} (hE : RE N G w env a) : ∀ {env' : Env}, EV D st env env' → RE N (G.frz D st w) w env' a
  | [], _ => ⟨hE.size, hE.defers.exts (Ext.frz G D st w).toExtS rfl, fun t r h => by cases h⟩
  | (t, r') :: rest, ⟨⟨r, h1, h2⟩, h3⟩ => by
    have ih := EV.ok hI hE h3
    refine ⟨hE.size, hE.defers.exts (Ext.frz G D st w).toExtS rfl, fun t' r'' hl => ?_⟩
    unfold look at hl
    split at hl
    · rename_i ht
      subst ht
      cases hl
      obtain ⟨v, hv, hr⟩ := hE.at_ _ _ h1
      exact ⟨v, hv, h2.ok hI hr⟩
    · exact ih.at_ t' r'' hl
/-- slots and objects are seen otherwise -/
theorem Pw.view (D : Nat → Bool) (env' : Env) (st' : Sto) {c : Code} {Q : Exit → Env → Sto → Prop} {env : Env} {st : Sto} (he : EV D st env env') (hs : ∀ id o, st' id = some o → st id = some o ∧ D id = false) (h : Pw (ρ := ρ) P N c Q env' st') : Pw (ρ := ρ) P N c Q env st := by
  refine ⟨fun G w a hI hE => ?_⟩
  refine wpIn_mono (h.out _ w a (hI.frz D hs) (EV.ok hI hE he)) fun e a' w' ⟨G', env'', st'', h1, h2, h3⟩ => ⟨G', env'', st'', h1, (Ext.frz G D st w).trans h2, h3⟩
theorem wpOpIn_q {ρ : Option Nat} {P : Program} {ops : Array Oper} {Q Q' : Exit → Act → World → Prop} (hq : ∀ e a w, Q e a w → Q' e a w) {i : Nat} {K K' : Act → World → Prop} (hk : ∀ a w, K a w → K' a w) {a : Act} {w : World} (h : wpOpIn (fen ρ) 7 P ops Q i K a w) : wpOpIn (fen ρ) 7 P ops Q' i K' a w := by
  unfold wpOpIn at *
  split
  · exact hk _ _ (by simpa [*] using h)
  · rename_i o ho
    simp only [ho] at h
    split
    · rename_i hw
      simp only [hw, if_true] at h
      refine ⟨h.1, ?_⟩
      replace h := h.2
      generalize (o.semAt (fen ρ).round a.eval).run P w = r at *
      cases r with
      | ok n w' =>
        cases n <;> simp only [Oper.uponIn] at h ⊢ <;> first
          | exact hk _ _ h
          | exact ⟨h.1, CallsIn.mono h.2 (fun e w'' he => by cases e <;> first | exact hk _ _ he | exact hq _ _ _ he | (obtain ⟨a1, w1, h3⟩ := he; exact ⟨a1, w1, hq _ _ _ h3⟩))⟩
          | exact ⟨h.1, RowsIn.mono h.2 (fun _ _ he => hk _ _ he)⟩
          | exact ⟨h.1, RoundIn.mono h.2 (fun e w'' he => by cases e <;> first | exact hk _ _ he | exact hq _ _ _ he | (obtain ⟨a1, w1, h3⟩ := he; exact ⟨a1, w1, hq _ _ _ h3⟩))⟩
      | halt x w' => cases x <;> simp only [Oper.uponIn] at h ⊢ <;> first | exact h | exact hq _ _ _ h
    · rename_i hw; simp only [hw] at h; exact ⟨fun _ _ => trivial, hk _ _ h.2⟩
theorem wpOpsIn_q {ρ : Option Nat} {P : Program} {ops : Array Oper} {Q Q' : Exit → Act → World → Prop} (hq : ∀ e a w, Q e a w → Q' e a w) : ∀ (l : List Nat) (a : Act) (w : World), wpOpsIn (fen ρ) 7 P ops Q l a w → wpOpsIn (fen ρ) 7 P ops Q' l a w
  | [], a, w, h => hq _ _ _ h
  | i :: l, a, w, h => by
    rw [wpOpsIn_cons] at h ⊢
    exact wpOpIn_q hq (wpOpsIn_q hq l) h
theorem RE.frz1 {G : Gh} {w : World} {st : Sto} {env : Env} {a : Act} (hI : Inv G w st) (hE : RE N G w env a) (D : Nat → Bool) {d : Nat} {r r' : AV} (hl : look env d = some r) (hf : FV D st r r') : RE N (G.frz D st w) w (Pm.put N env (some d) r') a := by
  refine ⟨hE.size, hE.defers.exts (Ext.frz G D st w).toExtS rfl, fun t x hx => ?_⟩
  obtain ⟨v, h1, h2⟩ := hE.at_ d r hl
  unfold Pm.put at hx
  dsimp only at hx
  split at hx
  · unfold look at hx
    split at hx
    · rename_i ht
      subst ht
      cases hx
      exact ⟨v, h1, hf.ok hI h2⟩
    · obtain ⟨u, k1, k2⟩ := hE.at_ t x hx
      exact ⟨u, k1, k2.ext (Ext.frz G D st w)⟩
  · obtain ⟨u, k1, k2⟩ := hE.at_ t x hx
    exact ⟨u, k1, k2.ext (Ext.frz G D st w)⟩
def only (id : Nat) : Nat → Bool := fun i => decide (i = id)
theorem only_old {st : Sto} {id : Nat} (h : st id = none) (o : Ob) : ∀ i o', st i = some o' → upd st id o i = some o' ∧ only id i = false := fun i o' hi => by
  have : i ≠ id := fun e => by subst e; rw [h] at hi; cases hi
  exact ⟨by simp [upd, this, hi], by simp [only, this]⟩
theorem OpOk.boxF {env : Env} {st : Sto} {o : Oper} {t : TypeId} {x : Operand} (ho : o.op = .box t x) {K : Env → Sto → Prop} {r : AV} (h1 : ev env x = some r) (h2 : ∀ l, r ≠ .t l) (h : K (put N env o.dst (.c (.ep (avc r)))) st) : OpOk P N o env st K := by
  refine .v1 (s := fun ρ => Instr.box t (ρ x)) (fun ρ => by unfold execOp; rw [ho]) fun G w a hI hE => ?_
  obtain ⟨v, w', G', r', st', k1, ⟨id, hn, rfl, rfl⟩, k3, k4, k5⟩ := Runs.box (P := P) (t := t) hI (ev_ok hE h1) h2 (K := fun r' st' => ∃ id, st id = none ∧ r' = .c (.ptr id 0) ∧ st' = upd st id (.bx (avc r))) (fun id hid => ⟨id, hid, rfl, rfl⟩)
  refine ⟨v, w', _, _, st, k1, h, k3.trans (Ext.frz G' (only id) _ w'), k4.frz (only id) (only_old hn _), ?_⟩
  refine (FV.c _ _ (Fz.ptr id 0 (avc r) (by simp [only]) (by simp [upd]))).ok k4 k5
theorem fillR_len {sz : Nat} : ∀ {ps : List (Nat × AV)} {rows out : List (List AC)}, fillR sz rows ps = some out → out.length = rows.length
  | [], rows, out, h => by cases h; rfl
  | (i, r) :: rest, rows, out, h => by
    unfold fillR at h
    split at h
    · cases h
    · split at h
      · rw [fillR_len h, List.length_set]
      · cases h
theorem OpOk.sliceF (TP : TOk P T) {env : Env} {st : Sto} {o : Oper} {t : TypeId} {n : Nat} {ps : Array (Nat × Operand)} (ho : o.op = .buildSlice t n ps) {K : Env → Sto → Prop} {rs : List (Nat × AV)} (h1 : parts env ps.toList = some rs) {i : TI} (h2 : T t = some i) {e : TypeId} (h3 : i.d = .sl e) {z : TI} (h4 : T e = some z)
    (h5 : n * z.size ≤ 16777216 ∧ n ≤ maxLen) {rows : List (List AC)} (h6 : fillR z.size (List.replicate n (z.z.map .v)) rs = some rows) (h : K (put N env o.dst (.c (.sl z.size rows))) st) : OpOk P N o env st K := by
  refine .v1 (s := fun ρ => Instr.buildSlice t n (ps.map fun (i, x) => (i, ρ x))) (fun ρ => by unfold execOp; rw [ho]) fun G w a hI hE => ?_
  obtain ⟨v, w', G', r', st', k1, ⟨id, hn, rfl, rfl⟩, k3, k4, k5⟩ := Runs.buildSlice (vs := ps.map fun (i, x) => (i, a.eval x)) TP hI h2 h3 h4 h5.1 h5.2 (by simpa using parts_ok hE h1) h6 (K := fun r' st' => ∃ id, st id = none ∧ r' = .c (.arr id 0 n) ∧ st' = upd st id (.ar z.size rows)) (fun id hid => ⟨id, hid, rfl, rfl⟩)
  have hl : rows.length = n := by rw [fillR_len h6, List.length_replicate]
  obtain ⟨g, s2, cs, e2, _, _, _, ⟨hs2, hq⟩, _⟩ := k4.obj id (.ar z.size rows) (by simp [upd])
  refine ⟨v, w', _, _, st, k1, h, k3.trans (Ext.frz G' (only id) _ w'), k4.frz (only id) (only_old hn _), ?_⟩
  refine (FV.c _ _ (Fz.arr id 0 n z.size rows rows (by simp [only]) (by simp [upd]) (by omega) hl (fun i r hr => hq r (List.mem_of_getElem? hr)) (fun i r r' j c c' q1 q2 q3 q4 => ?_))).ok k4 k5
  rw [Nat.zero_add] at q1
  rw [q1] at q2
  cases q2
  rw [q3] at q4
  cases q4
  exact .refl _
theorem vopF_ok (TP : TOk P T) {S : List Nat} {o : Oper} {env : Env} {st : Sto} {K : Env → Sto → Prop} (h : vopF P T S o env st fun r st' => K (put N env o.dst r) st') : OpOk P N o env st K := by
  unfold vopF at h
  split at h
  · rename_i t x ho
    split at h
    · split at h
      · exact vop_ok TP h
      · obtain ⟨r, h1, h⟩ := onO_iff.1 h
        obtain ⟨h2, h⟩ := ntup_ok h
        exact .boxF ho h1 h2 h
    · exact vop_ok TP h
  · rename_i t n ps ho
    split at h
    · split at h
      · exact vop_ok TP h
      · obtain ⟨rs, h1, h⟩ := onO_iff.1 h
        obtain ⟨i, h2, h⟩ := onO_iff.1 h
        obtain ⟨e, h3, h⟩ := slE_ok h
        obtain ⟨z, h4, h⟩ := onO_iff.1 h
        split at h
        · rename_i h5
          obtain ⟨rows, h6, h⟩ := onO_iff.1 h
          exact .sliceF TP ho h1 h2 h3 h4 h5 h6 h
        · exact h.elim
    · exact vop_ok TP h
  · exact vop_ok TP h
theorem pair_ok {S : List Nat} {o o2 : Oper} {d t : Nat} {x : Operand} (h : pair N S o o2 = some (d, t, x)) : o.dst = some d ∧ o.op = .alloc t ∧ o.guard = none ∧ o2.dst = none ∧ o2.op = .store t (.tmp d) x ∧ o2.guard = none ∧ d < N ∧ x ≠ .tmp d := by
  unfold pair at h
  split at h
  · split at h
    · rename_i hc
      cases h
      simp only [Bool.and_eq_true, decide_eq_true_eq] at hc
      obtain ⟨⟨⟨⟨rfl, rfl⟩, hN⟩, hx⟩, _⟩ := hc
      refine ⟨by assumption, by assumption, by assumption, by assumption, by assumption, by assumption, hN, fun e => ?_⟩
      subst e
      simp at hx
    · cases h
  · cases h
theorem putAt_all : ∀ (cs vs : List AC), vs.length = cs.length → putAt cs 0 vs = vs := by
  intro cs vs h
  unfold putAt
  simp [h]
theorem List.twoStep {α : Type} {p : List α → Prop} (nil : p []) (one : ∀ a, p [a]) (two : ∀ a b l, p l → p (b :: l) → p (a :: b :: l)) (l : List α) : p l := by
  have : p l ∧ ∀ a, p (a :: l) := by
    induction l with
    | nil => exact ⟨nil, one⟩
    | cons b l ih => exact ⟨ih.2 b, fun a => two a b l ih.1 (ih.2 b)⟩
  exact this.1
theorem vops_ok (TP : TOk P T) {S : List Nat} {ops : Array Oper} {Q : Env → Sto → Prop} {G0 : Gh} {w0 : World} : ∀ (l : List Oper) (k : Nat), ops.toList.drop k = l → ∀ {env : Env} {st : Sto}, vops P T N S ops l env st Q → ∀ G w a, Ext G0 w0 G w → Inv G w st → RE N G w env a →
    wpOpsIn (fen ρ) 7 P ops (fun e a' w' => ∃ G' env' st', e = .normal ∧ Q env' st' ∧ Ext G0 w0 G' w' ∧ Inv G' w' st' ∧ RE N G' w' env' a') (List.range' k l.length) a w := by
  -- one operation
  have one : ∀ (o : Oper) (rest : List Oper) (k : Nat), ops.toList.drop k = o :: rest → ∀ {env : Env} {st : Sto} {K : Env → Sto → Prop}, vgo P T N S ops o env st K →
      (∀ {env : Env} {st : Sto}, K env st → ∀ G w a, Ext G0 w0 G w → Inv G w st → RE N G w env a → wpOpsIn (fen ρ) 7 P ops (fun e a' w' => ∃ G' env' st', e = .normal ∧ Q env' st' ∧ Ext G0 w0 G' w' ∧ Inv G' w' st' ∧ RE N G' w' env' a') (List.range' (k + 1) rest.length) a w) →
      ∀ G w a, Ext G0 w0 G w → Inv G w st → RE N G w env a → wpOpsIn (fen ρ) 7 P ops (fun e a' w' => ∃ G' env' st', e = .normal ∧ Q env' st' ∧ Ext G0 w0 G' w' ∧ Inv G' w' st' ∧ RE N G' w' env' a') (List.range' k (o :: rest).length) a w := by
    intro o rest k hk env st K h hK G w a hX hI hE
    have hko : ops[k]? = some o := by
      have := congrArg (·[0]?) hk
      simpa [List.getElem?_drop] using this
    rw [List.length_cons, List.range'_succ, wpOpsIn_cons]
    have fin : ∀ (K' : OpOk P N o env st K), ∀ R, Oper.wpIn (fen ρ) 7 P o a w (fun a' w' => wpOpsIn (fen ρ) 7 P ops (fun e a' w' => ∃ G' env' st', e = .normal ∧ Q env' st' ∧ Ext G0 w0 G' w' ∧ Inv G' w' st' ∧ RE N G' w' env' a') (List.range' (k + 1) rest.length) a' w') R := by
      intro K' R
      refine Oper.wpIn_mono ?_ (K' ρ G w a hI hE R)
      rintro a' w' ⟨G', env', st', h1, h2, h3, h4⟩
      exact hK h1 G' w' a' (hX.trans h2) h3 h4
    unfold wpOpIn
    rw [hko]
    dsimp only
    unfold vgo at h
    cases hg : o.guard with
    | none =>
      rw [hg] at h
      have hw : Region.wanted o (yielded ops a.tmps) = true := by simp [Region.wanted, hg]
      rw [if_pos hw]
      exact (fin (vopF_ok TP h) _)
    | some jw =>
      obtain ⟨j, want⟩ := jw
      rw [hg] at h
      dsimp only at h
      obtain ⟨d, h1, h⟩ := onO_iff.1 h
      obtain ⟨r, h2, h⟩ := onO_iff.1 h
      obtain ⟨v, h3, h4⟩ := hE.at_ _ _ h2
      rcases onG_ok h with ⟨⟨l, rfl⟩, hA⟩ | ⟨b, rfl, hh⟩
      · have hv : ∃ vs, v = .tuple vs := by cases h4; exact ⟨_, rfl⟩
        obtain ⟨vs, rfl⟩ := hv
        have hy : yielded ops a.tmps j = none := by simp [yielded, h1, h3]
        have hw : ¬ (Region.wanted o (yielded ops a.tmps) = true) := by simp [Region.wanted, hg, hy]
        rw [if_neg hw]
        exact ⟨fun _ _ => trivial, hK hA G w _ hX hI (hE.put (.t [] _ rfl (fun j x v h _ => by simp at h)) _)⟩
      clear h
      have hv : v = .bool b := by have := h4.cel; cases this; rfl
      subst hv
      have hy : yielded ops a.tmps j = some b := by simp [yielded, h1, h3]
      have hw : Region.wanted o (yielded ops a.tmps) = (b == want) := by simp [Region.wanted, hg, hy]
      rw [hw]
      by_cases hb : b = want
      · rw [if_pos hb] at hh
        rw [if_pos (by simp [hb])]
        exact (fin (vopF_ok TP hh) _)
      · rw [if_neg hb] at hh
        rw [if_neg (by simp [hb])]
        exact ⟨fun _ _ => trivial, hK hh G w _ hX hI (hE.put (.t [] _ rfl (fun j x v h _ => by simp at h)) _)⟩
  intro l
  induction l using List.twoStep with
  | nil => intro k hk env st h G w a hX hI hE; exact ⟨G, env, st, rfl, h, hX, hI, hE⟩
  | one o =>
    intro k hk env st h G w a hX hI hE
    exact one o [] k hk h (fun h1 G w a hX hI hE => ⟨G, _, _, rfl, h1, hX, hI, hE⟩) G w a hX hI hE
  | two o o2 rest ih1 ih2 =>
    intro k hk env st h G w a hX hI hE
    have hr1 : ops.toList.drop (k + 1) = o2 :: rest := by rw [← List.drop_drop, hk]; rfl
    have hr2 : ops.toList.drop (k + 1 + 1) = rest := by rw [← List.drop_drop, hr1]; rfl
    unfold vops at h
    cases hp : pair N S o o2 with
    | none =>
      rw [hp] at h
      exact one o (o2 :: rest) k hk h (fun h1 G w a hX hI hE => ih2 (k + 1) hr1 h1 G w a hX hI hE) G w a hX hI hE
    | some p =>
      obtain ⟨d, t, x⟩ := p
      rw [hp] at h
      obtain ⟨hd, ho, hg, hd2, ho2, hg2, hN, hne⟩ := pair_ok hp
      obtain ⟨r, h1, h⟩ := onO_iff.1 h
      obtain ⟨i, h2, h⟩ := onO_iff.1 h
      obtain ⟨h3, h⟩ := ntup_ok h
      split at h
      · rename_i h4
        have hko : ops[k]? = some o := by
          have := congrArg (·[0]?) hk
          simpa [List.getElem?_drop] using this
        have hko2 : ops[k + 1]? = some o2 := by
          have := congrArg (·[0]?) hr1
          simpa [List.getElem?_drop] using this
        rw [List.length_cons, List.range'_succ, wpOpsIn_cons]
        unfold wpOpIn
        rw [hko]
        dsimp only
        rw [if_pos (by simp [Region.wanted, hg])]
        have op1 : OpOk P N o env st fun env' st' => ∃ id, st id = none ∧ env' = put N env o.dst (.c (.ptr id 0)) ∧ st' = upd st id (.bx (i.z.map .v)) := vop_ok TP (by
          rw [ho]
          exact onO_iff.2 ⟨i, h2, fun id hid => ⟨id, hid, rfl, rfl⟩⟩)
        refine Oper.wpIn_mono ?_ (op1 ρ G w a hI hE _)
        rintro a1 w1 ⟨G1, _, _, ⟨id, hid, rfl, rfl⟩, x1, i1, e1⟩
        rw [List.length_cons, List.range'_succ, wpOpsIn_cons]
        unfold wpOpIn
        rw [hko2]
        dsimp only
        rw [if_pos (by simp [Region.wanted, hg2])]
        have hz : (i.z.map AC.v).length = i.size := by rw [List.length_map]; exact (TP.f t i h2).choose_spec.2.2.2.2.1
        have hx : ev (put N env o.dst (.c (.ptr id 0))) x = some r := by
          cases x with
          | tmp y =>
            have : o.dst ≠ some y := fun e => hne (by rw [hd] at e; cases e; rfl)
            show look _ y = _
            unfold Pm.put
            rw [hd]
            dsimp only
            rw [if_pos hN]
            unfold look
            rw [if_neg (fun e => this (by rw [hd, e]))]
            exact h1
          | _ => exact h1
        have hlk : look (put N env o.dst (.c (.ptr id 0))) d = some (.c (.ptr id 0)) := by
          unfold Pm.put
          rw [hd]
          dsimp only
          rw [if_pos hN]
          simp [look]
        have op2 : OpOk P N o2 (put N env o.dst (.c (.ptr id 0))) (upd st id (.bx (i.z.map .v))) fun env' st' => env' = put N env o.dst (.c (.ptr id 0)) ∧ st' = upd (upd st id (.bx (i.z.map .v))) id (.bx (avc r)) := vop_ok TP (by
          rw [ho2, hd2]
          refine onO_iff.2 ⟨_, hlk, onO_iff.2 ⟨r, hx, onO_iff.2 ⟨i, h2, ?_⟩⟩⟩
          have : ∀ F : Prop, F → ntup r F := fun F hF => by cases r <;> first | exact hF | exact absurd rfl (h3 _)
          refine this _ ?_
          rw [if_pos h4]
          refine ⟨i.z.map .v, by simp [upd], by rw [hz, h4]; omega, rfl, ?_⟩
          rw [putAt_all _ _ (by rw [hz, h4])])
        refine Oper.wpIn_mono ?_ (op2 ρ G1 w1 a1 i1 e1 _)
        rintro a2 w2 ⟨G2, _, _, ⟨rfl, rfl⟩, x2, i2, e2⟩
        have he3 := RE.frz1 i2 e2 (only id) hlk (FV.c _ _ (Fz.ptr id 0 (avc r) (by simp [only]) (by simp [upd])))
        have hold : ∀ j o', st j = some o' → upd (upd st id (.bx (i.z.map .v))) id (.bx (avc r)) j = some o' ∧ only id j = false := fun j o' hj => by
          have : j ≠ id := fun e => by subst e; rw [hid] at hj; cases hj
          exact ⟨by simp [upd, this, hj], by simp [only, this]⟩
        refine ih1 (k + 1 + 1) hr2 h _ w2 a2 ((hX.trans x1).trans (x2.trans (Ext.frz G2 (only id) _ w2))) (i2.frz (only id) hold) ?_
        refine ⟨he3.size, he3.defers, fun t' r' hl => ?_⟩
        apply he3.at_ t' r'
        rw [← hl]
        show look (put N (put N env o.dst (.c (.ptr id 0))) (some d) (.c (.ep (avc r)))) t' = look (put N env (some d) (.c (.ep (avc r)))) t'
        rw [hd]
        unfold Pm.put
        dsimp only
        rw [if_pos hN, if_pos hN]
        by_cases ht : d = t'
        · subst ht
          simp [look, hN]
        · simp [look, ht, hN]
      · exact h.elim
theorem Pw.skip {Q : Exit → Env → Sto → Prop} {env : Env} {st : Sto} (h : Q .normal env st) : Pw (ρ := ρ) P N .skip Q env st := ⟨fun G w a hI hE => wpIn_skip ⟨G, env, st, h, Ext.refl _ _, hI, hE⟩⟩
theorem Pw.region (TP : TOk P T) (S : List Nat) {id : Nat} {ops : Array Oper} {Q : Exit → Env → Sto → Prop} {env : Env} {st : Sto} (h : vops P T N S ops ops.toList env st (Q .normal)) : Pw (ρ := ρ) P N (.region id ops false) Q env st := ⟨fun G w a hI hE => by
  refine wpIn_region (?_ : wpOpsIn (fen ρ) 7 P ops _ (List.range ops.size) a w)
  have := vops_ok (ρ := ρ) TP (G0 := G) (w0 := w) ops.toList 0 rfl h G w a (Ext.refl _ _) hI hE
  have e : List.range ops.size = List.range' 0 ops.toList.length := by rw [List.range_eq_range', Array.length_toList]
  rw [e]
  exact wpOpsIn_q (fun e a w ⟨G', env', st', he, h1⟩ => ⟨G', env', st', he ▸ h1⟩) _ _ _ this⟩
theorem Pw.seq {x y : Code} {Q : Exit → Env → Sto → Prop} {env : Env} {st : Sto} (h : Pw (ρ := ρ) P N x (fun e env st => match e with | .normal => Pw (ρ := ρ) P N y Q env st | e => Q e env st) env st) : Pw (ρ := ρ) P N (.seq x y) Q env st := ⟨fun G w a hI hE => by
  refine wpIn_seq (wpIn_mono (h.out G w a hI hE) fun e a' w' ⟨G', env', st', h1, h2, h3, h4⟩ => ?_)
  cases e with
  | normal => exact wpIn_mono (h1.out G' w' a' h3 h4) fun e a2 w2 ⟨G2, e2, s2, b1, b2, b3⟩ => ⟨G2, e2, s2, b1, h2.trans b2, b3⟩
  | _ => exact ⟨G', env', st', h1, h2, h3, h4⟩⟩
theorem Pw.block {id : Nat} {x : Code} {Q : Exit → Env → Sto → Prop} {env : Env} {st : Sto} (h : Pw (ρ := ρ) P N x (fun e env st => match e with | .exit i => if i = id then Q .normal env st else Q (.exit i) env st | e => Q e env st) env st) : Pw (ρ := ρ) P N (.block id x) Q env st := ⟨fun G w a hI hE => by
  refine wpIn_block (wpIn_mono (h.out G w a hI hE) fun e a' w' ⟨G', env', st', h1, h2⟩ => ?_)
  cases e with
  | exit i =>
    dsimp only at h1
    unfold Exit.inBlock
    by_cases hi : i = id
    · simp only [hi, if_true] at h1 ⊢; exact ⟨G', env', st', h1, h2⟩
    · simp only [hi, if_false] at h1 ⊢; exact ⟨G', env', st', h1, h2⟩
  | _ => exact ⟨G', env', st', h1, h2⟩⟩
theorem Pw.cond {c : Operand} {x y : Code} {Q : Exit → Env → Sto → Prop} {env : Env} {st : Sto} {b : Bool} (hc : ev env c = some (.c (.v (.bool b)))) (h : Pw (ρ := ρ) P N (if b then x else y) Q env st) : Pw (ρ := ρ) P N (.cond c x y) Q env st := ⟨fun G w a hI hE => by
  have hv := (ev_ok hE hc).cel
  have hv' : a.eval c = .bool b := by generalize a.eval c = u at hv; cases hv; rfl
  exact wpIn_cond hv' (h.out G w a hI hE)⟩
theorem wp_scope_once {c : Code} {P : Program} {a : Act} {w : World} {Q : Exit → Act → World → Prop}
    (h : c.wp P (fun e a w => match e with | .goto l => ∃ rest, findLabel c l = some rest ∧ rest.wp P (fun e a w => match e with | .goto _ => False | e => Q e a w) a w | e => Q e a w) a w) : (Code.scope c).wp P Q a w := by
  intro b k cs
  obtain ⟨e, a₁, w₁, hq, harr⟩ := h b (.inScope c :: k) cs
  cases e with
  | normal => exact ⟨.normal, a₁, w₁, hq, .head step_scope (Steps.trans harr (.one step_inScope))⟩
  | exit id => exact ⟨.exit id, a₁, w₁, hq, fun k' hk => .head step_scope (harr k' (by simp [exitTo, hk]))⟩
  | goto l' =>
    obtain ⟨rest, hf, hr⟩ := hq
    have hg : gotoIn l' (.inScope c :: k) = some (.code rest :: .inScope c :: k) := by simp [gotoIn, hf]
    obtain ⟨e, a₂, w₂, hq, harr₂⟩ := hr b (.inScope c :: k) cs
    cases e with
    | normal => exact ⟨.normal, a₂, w₂, hq, .of_steps (.head step_scope (harr _ hg)) (Steps.trans harr₂ (.one step_inScope))⟩
    | exit id => exact ⟨.exit id, a₂, w₂, hq, .of_steps (.head step_scope (harr _ hg)) (fun k' hk => harr₂ k' (by simp [exitTo, hk]))⟩
    | goto _ => exact hq.elim
    | ret => exact ⟨_, a₂, w₂, hq, .of_steps (.head step_scope (harr _ hg)) harr₂⟩
    | panic ch => exact ⟨_, a₂, w₂, hq, .of_steps (.head step_scope (harr _ hg)) harr₂⟩
    | outgrown => exact ⟨_, a₂, w₂, hq, .of_steps (.head step_scope (harr _ hg)) harr₂⟩
  | ret => exact ⟨_, a₁, w₁, hq, .of_steps (.one step_scope) harr⟩
  | panic ch => exact ⟨_, a₁, w₁, hq, .of_steps (.one step_scope) harr⟩
  | outgrown => exact ⟨_, a₁, w₁, hq, .of_steps (.one step_scope) harr⟩
theorem Pw.scope {x : Code} {Q : Exit → Env → Sto → Prop} {env : Env} {st : Sto} (hρ : ρ = none)
    (h : Pw (ρ := ρ) P N x (fun e env st => match e with | .goto l => onO (findLabel x l) fun rest => Pw (ρ := ρ) P N rest (fun e env st => match e with | .goto _ => False | e => Q e env st) env st | e => Q e env st) env st) : Pw (ρ := ρ) P N (.scope x) Q env st := by
  subst hρ
  refine ⟨fun G w a hI hE => ?_⟩
  refine wpIn_wide.2 (wp_scope_once (wpIn_wide.1 (wpIn_mono (h.out G w a hI hE) fun e a' w' ⟨G', env', st', h1, h2, h3, h4⟩ => ?_)))
  cases e with
  | goto l =>
    obtain ⟨rest, q1, q2⟩ := onO_iff.1 h1
    refine ⟨rest, q1, wpIn_wide.1 (wpIn_mono (q2.out G' w' a' h3 h4) fun e a2 w2 ⟨G2, env2, st2, k1, k2, k3, k4⟩ => ?_)⟩
    cases e <;> first | exact k1.elim | exact ⟨G2, env2, st2, k1, h2.trans k2, k3, k4⟩
  | _ => exact ⟨G', env', st', h1, h2, h3, h4⟩
theorem vcode_scope {S : List Nat} {x : Code} {Q : Exit → Env → Sto → Prop} {env : Env} {st : Sto} (h : vcode (ρ := ρ) P T N S (.scope x) Q env st) : ρ = none ∧ vcode (ρ := ρ) P T N S x (fun e env st => match e with | .goto l => onO (findLabel x l) fun rest => Pw (ρ := ρ) P N rest (fun e env st => match e with | .goto _ => False | e => Q e env st) env st | e => Q e env st) env st := by
  cases ρ with
  | none => exact ⟨rfl, h⟩
  | some _ => exact h.elim
theorem Pw.of (TP : TOk P T) (S : List Nat) : ∀ {c : Code} {Q : Exit → Env → Sto → Prop} {env : Env} {st : Sto}, vcode (ρ := ρ) P T N S c Q env st → Pw (ρ := ρ) P N c Q env st
  | .skip, Q, env, st, h => .skip h
  | .region id ops false, Q, env, st, h => .region TP S h
  | .region id ops true, Q, env, st, h => h
  | .seq x y, Q, env, st, h => .seq (Pw.mono (Pw.of TP S h) fun e env st h => by
    cases e with
    | normal =>
      dsimp only at h
      split at h
      · exact h
      · exact Pw.of TP S h
    | _ => exact h)
  | .cond c x y, Q, env, st, h => by
    obtain ⟨r, h1, hr⟩ := onO_iff.1 h
    obtain ⟨b, hb, hh⟩ := onT_iff.1 hr
    subst hb
    clear hr
    refine .cond h1 ?_
    cases b
    · dsimp only at hh
      split at hh
      · exact hh
      · exact Pw.of TP S hh
    · dsimp only at hh
      split at hh
      · exact hh
      · exact Pw.of TP S hh
  | .block id x, Q, env, st, h => .block (Pw.of TP S h)
  | .exit id, Q, env, st, h => ⟨fun G w a hI hE => wpIn_exit ⟨G, env, st, h, Ext.refl _ _, hI, hE⟩⟩
  | .ret, Q, env, st, h => ⟨fun G w a hI hE => wpIn_ret ⟨G, env, st, h, Ext.refl _ _, hI, hE⟩⟩
  | .label l, Q, env, st, h => ⟨fun G w a hI hE => wpIn_label ⟨G, env, st, h, Ext.refl _ _, hI, hE⟩⟩
  | .goto l, Q, env, st, h => ⟨fun G w a hI hE => wpIn_goto ⟨G, env, st, h, Ext.refl _ _, hI, hE⟩⟩
  | .loop x, Q, env, st, h => h
  | .rangeFunc .., Q, env, st, h => h
  | .scope x, Q, env, st, h => .scope (vcode_scope h).1 (Pw.of TP S (vcode_scope h).2)
  | .refuse w, Q, env, st, h => h
/-- a view of slots and objects -/
def Vw (env : Env) (st : Sto) (env' : Env) (st' : Sto) : Prop := ∃ D : Nat → Bool, EV D st env env' ∧ ∀ id o, st' id = some o → st id = some o ∧ D id = false
theorem Pw.vw {env' : Env} {st' : Sto} {c : Code} {Q : Exit → Env → Sto → Prop} {env : Env} {st : Sto} (hv : Vw env st env' st') (h : Pw (ρ := ρ) P N c Q env' st') : Pw (ρ := ρ) P N c Q env st := by
  obtain ⟨D, h1, h2⟩ := hv; exact .view D env' st' h1 h2 h
theorem Pw.loop {σ : Type} (e : σ → Env) (s : σ → Sto) (I : σ → Prop) (μ : σ → Nat) {c : Code} {Q : Exit → Env → Sto → Prop} {env : Env} {st : Sto} (h0 : ∃ x, Vw env st (e x) (s x) ∧ I x)
    (round : ∀ x, I x → Pw (ρ := ρ) P N c (fun ex env' st' => match ex with | .normal => ∃ y, Vw env' st' (e y) (s y) ∧ I y ∧ μ y < μ x | ex => Q ex env' st') (e x) (s x)) : Pw (ρ := ρ) P N (.loop c) Q env st := by
  obtain ⟨x, hv, hx⟩ := h0
  refine .vw hv ⟨fun G w a hI hE => ?_⟩
  have key : ∀ (n : Nat) (x : σ) (G1 : Gh) (w1 : World) (a1 : Act), μ x < n → I x → Ext G w G1 w1 → Inv G1 w1 (s x) → RE N G1 w1 (e x) a1 →
      Code.roundsIn (fen ρ) 7 P c (fun e a' w' => ∃ G' env' st', Q e env' st' ∧ Ext G w G' w' ∧ Inv G' w' st' ∧ RE N G' w' env' a') n a1 w1 := by
    intro n
    induction n with
    | zero => intro x G1 w1 a1 h; exact absurd h (Nat.not_lt_zero _)
    | succ n ih =>
      intro x G1 w1 a1 hm hx hX hI hE
      rw [roundsIn_succ]
      refine wpIn_mono ((round x hx).out G1 w1 a1 hI hE) fun ex a2 w2 ⟨G2, e2, s2, h1, h2, h3, h4⟩ => ?_
      cases ex with
      | normal =>
        obtain ⟨y, ⟨D, hv1, hv2⟩, hy, hlt⟩ := h1
        exact ih y _ w2 a2 (by omega) hy ((hX.trans h2).trans (Ext.frz G2 D s2 w2)) (h3.frz D hv2) (EV.ok h3 h4 hv1)
      | _ => exact ⟨G2, e2, s2, h1, hX.trans h2, h3, h4⟩
  exact wpIn_loop_rounds (μ x + 1) (key _ x G w a (Nat.lt_succ_self _) hx (Ext.refl _ _) hI hE)
end Go.Proofs.YtbmgenifdlgbmaaGreat.D.Pm
namespace Go.Proofs.YtbmgenifdlgbmaaGreat.D.Pm
set_option linter.unusedVariables false
set_option linter.unusedSimpArgs false
open Go
def params : Nat → List AV → Env
  | _, [] => []
  | i, r :: l => (i, r) :: params (i + 1) l
def vres (T : TT) (st : Sto) (env : Env) : List ResultVar → (List AV → Prop) → Prop
  | [], F => F []
  | .tmp t :: r, F => onO (look env t) fun v => vres T st env r fun l => F (v :: l)
  | .cell a t :: r, F => onO (look env a) fun p => onC p fun p => rdv st p fun cs => onO (ldc T t cs) fun v => vres T st env r fun l => F (v :: l)
/-- what a function hands back, as it may be seen -/
def Fin (K : AV → Sto → Prop) (r : AV) (st : Sto) : Prop := ∃ (D : Nat → Bool) (st' : Sto) (r' : AV), FV D st r r' ∧ (∀ id o, st' id = some o → st id = some o ∧ D id = false) ∧ K r' st'
def tupl : List AV → AV
  | [r] => r
  | l => .t l
def retQ (T : TT) (rs : List ResultVar) (K : AV → Sto → Prop) (e : Exit) (env : Env) (st : Sto) : Prop :=
  match e with
  | .normal => vres T st env rs fun l => Fin K (tupl l) st
  | .ret => vres T st env rs fun l => Fin K (tupl l) st
  | _ => False
variable {P : Program} {T : TT} {N : Nat}
theorem params_ok {G : Gh} {w : World} : ∀ (as : List AV) (i : Nat) (vs : Array Value), (∀ (j : Nat) r, as[j]? = some r → ∃ v, vs[i + j]? = some v ∧ RV G w r v) → ∀ t r, look (params i as) t = some r → ∃ v, vs[t]? = some v ∧ RV G w r v
  | [], i, vs, h, t, r, hl => by cases hl
  | a :: as, i, vs, h, t, r, hl => by
    unfold params look at hl
    split at hl
    · rename_i ht
      cases hl
      have := h 0 a rfl
      rwa [Nat.add_zero, ht] at this
    · exact params_ok as (i + 1) vs (fun j r hj => by have := h (j + 1) r hj; rwa [show i + (j + 1) = i + 1 + j by omega] at this) t r hl
def resVal (P : Program) (tmps : Array Value) : ResultVar → Sem Value
  | .tmp t => pure (tmps.getD t undef)
  | .cell a t => do loadVar t (← asAddr (tmps.getD a undef))
theorem vres_ok (TP : TOk P T) {G : Gh} {w : World} {st : Sto} {env : Env} {a : Act} (hI : Inv G w st) (hE : RE N G w env a) : ∀ {rs : List ResultVar} {F : List AV → Prop}, vres T st env rs F →
    ∃ l vs, F l ∧ (rs.mapM (resVal P a.tmps)).run P w = .ok vs w ∧ vs.length = l.length ∧ ∀ (j : Nat) r v, l[j]? = some r → vs[j]? = some v → RV G w r v
  | [], F, h => ⟨[], [], h, by simp, rfl, fun j r v h => by simp at h⟩
  | .tmp t :: rs, F, h => by
    obtain ⟨r, h1, h⟩ := onO_iff.1 h
    obtain ⟨l, vs, h2, h3, h4, h5⟩ := vres_ok TP hI hE h
    obtain ⟨v, h6, h7⟩ := hE.at_ _ _ h1
    refine ⟨r :: l, v :: vs, h2, ?_, by simp [h4], fun j r' v' a b => ?_⟩
    · simp [resVal, h3, Array.getD_eq_getD_getElem?, h6]
    · cases j with
      | zero => cases a; cases b; exact h7
      | succ j => exact h5 j r' v' a b
  | .cell p t :: rs, F, h => by
    obtain ⟨r, h1, hr⟩ := onO_iff.1 h
    obtain ⟨c, hcr, hc⟩ := onC_iff.1 hr
    subst hcr
    obtain ⟨cs, h2, ho⟩ := rdv_ok hc
    obtain ⟨r, h3, h⟩ := onO_iff.1 ho
    obtain ⟨l, vs, h4, h5, h6, h7⟩ := vres_ok TP hI hE h
    obtain ⟨v, h8, h9⟩ := hE.at_ _ _ h1
    obtain ⟨g, o, rfl, hl⟩ := rdp_ok hI h9.cel h2
    obtain ⟨u, h10, h11⟩ := load_ok TP hl h3
    refine ⟨r :: l, u :: vs, h4, ?_, by simp [h6], fun j r' v' a b => ?_⟩
    · simp [resVal, h5, Array.getD_eq_getD_getElem?, h8, asAddr, h10]
    · cases j with
      | zero => cases a; cases b; exact h11
      | succ j => exact h7 j r' v' a b
theorem results_eq {fn : Func} {tmps : Array Value} {w : World} {vs : List Value} (h : (fn.results.toList.mapM (resVal P tmps)).run P w = .ok vs w) : (results fn tmps).run P w = .ok (if h : vs.toArray.size = 1 then vs.toArray[0] else .tuple vs.toArray) w := by
  have e : results fn tmps = (do
      let vs ← fn.results.mapM (resVal P tmps)
      pure (if h : vs.size = 1 then vs[0] else .tuple vs)) := by
    unfold results resVal
    rfl
  rw [e]
  have e2 : fn.results.mapM (resVal P tmps) = (do let l ← fn.results.toList.mapM (resVal P tmps); pure l.toArray) := by
    rw [Array.mapM_eq_mapM_toList]
    simp
  rw [e2]
  simp [h]
/-- the marks are taken: what lies behind -/
def Took (ds : List Deferred) (w w' : World) : Prop :=
  w'.heap.size = w.heap.size ∧ (w'.os = w.os ∧ w'.tape = w.tape ∧ w'.output = w.output) ∧ SC w w' ∧ ∀ k, (∀ d ∈ ds, d.target ≠ .collected k) → w'.heap[k]? = w.heap[k]?
theorem leaves_marks {n : Nat} {fn : Func} {tmps : Array Value} {R : Ending → World → Prop} {G : Gh} : ∀ {ds : List Deferred} {w : World}, Marks G w ds → (∀ w', Took ds w w' → LeavesIn (fen none) n P fn tmps R [] .returning w') → LeavesInM (fen none) n P fn tmps R ds .returning w
  | [], w, _, h => h w ⟨rfl, ⟨rfl, rfl, rfl⟩, .refl _, fun _ _ => rfl⟩
  | d :: ds, w, ⟨⟨D, hd, hB, hX, hD, hne⟩, hm⟩, h => by
    subst hd
    have hlt : D < w.heap.size := (Array.getElem?_eq_some_iff.1 hD).1
    obtain ⟨w1, hw1⟩ : ∃ w1, w1 = { w with heap := w.heap.setIfInBounds D (.deferred none) } := ⟨_, rfl⟩
    have hoth : ∀ k, k ≠ D → w1.heap[k]? = w.heap[k]? := fun k hk => by rw [hw1]; simp [Ne.symm hk]
    have hsc : SC w w1 := fun k cs e f hk => by
      have : k ≠ D := fun e => by subst e; rw [hD] at hk; cases hk
      rw [hoth k this]; exact hk
    have hrun : (Instr.takeDeferred D).run P w = .ok [] w1 := by
      rw [hw1]; simp [Instr.takeDeferred, getObj, setObj, Sem.run, hD]
    have hm1 : Marks G w1 ds := by
      clear h
      have key : ∀ l : List Deferred, Marks G w l → (∀ d' ∈ l, d' ≠ ({ target := .collected D, args := #[] } : Deferred)) → Marks G w1 l := by
        intro l
        induction l with
        | nil =>
          intro h _
          have h : G.B ≤ w.heap.size := h
          show G.B ≤ w1.heap.size
          rw [hw1]; simpa using h
        | cons a l ih =>
          rintro ⟨⟨D', h1, h2, h3, h4, h5⟩, h6⟩ hn
          have : D' ≠ D := fun e => hn a (List.mem_cons_self ..) (by rw [h1, e])
          exact ⟨⟨D', h1, h2, h3, (hoth D' this).trans h4, h5⟩, ih h6 fun d' hd' => hn d' (List.mem_cons_of_mem _ hd')⟩
      exact key ds hm hne
    refine ⟨by simp, .inl ⟨D, w1, rfl, hrun, leaves_marks hm1 fun w' ⟨h1, h2, h3, h4⟩ => h w' ⟨h1.trans (by rw [hw1]; simp), ⟨h2.1.trans (by rw [hw1]), h2.2.1.trans (by rw [hw1]), h2.2.2.trans (by rw [hw1])⟩, hsc.trans h3, fun k hk => ?_⟩⟩⟩
    rw [h4 k (fun d hd => hk d (List.mem_cons_of_mem _ hd)), hoth k (fun e => by subst e; exact hk _ (List.mem_cons_self ..) rfl)]
theorem Marks.ge {G : Gh} {w : World} : ∀ {ds : List Deferred}, Marks G w ds → ∀ d ∈ ds, ∀ k, d.target = .collected k → G.B ≤ k
  | d :: ds, ⟨⟨D, hd, hB, _⟩, hm⟩, d', hd', k, hk => by
    rcases List.mem_cons.1 hd' with rfl | h
    · subst hd; cases hk; exact hB
    · exact Marks.ge hm d' h k hk
theorem Does.of (TP : TOk P T) {f : FuncId} {fn : Func} {c : Code} {as : List AV} {st : Sto} {K : AV → Sto → Prop} (hf : P.funcs[f]? = some fn) (hb : fn.body = some c) (hn : (fn.name == "runtime.NumGoroutine") = false) (hN : as.length ≤ fn.ntmps)
    (h : Pw (ρ := none) P fn.ntmps c (retQ T fn.results.toList K) (params 0 as) st) : Does P f as st K := by
  refine ⟨⟨fn, c, hf, hb, hn⟩, fun G w vs hI hv => callsIn_fen.1 (callsIn_of_wp_marks (F := fen none) (n := 7) hf hb trivial ?_)⟩
  have hE : RE fn.ntmps (G.base w.heap.size) w (params 0 as) { tmps := vs ++ Array.replicate (fn.ntmps - vs.size) undef, defers := [] } := by
    refine ⟨by simp [hv.1]; omega, Nat.le_refl _, params_ok as 0 _ fun j r hj => ?_⟩
    have hlt : j < vs.size := by rw [hv.1]; exact (List.getElem?_eq_some_iff.1 hj).1
    refine ⟨vs[j], ?_, (hv.2 j r _ hj (Array.getElem?_eq_getElem hlt)).exts (base_exts G w _)⟩
    rw [Nat.zero_add, Array.getElem?_append_left hlt, Array.getElem?_eq_getElem hlt]
  refine wpIn_mono (h.out _ w _ (hI.base _) hE) fun e a' w' ⟨G', env', st', h1, h2, h3, h4⟩ => ?_
  have fin : vres T st' env' fn.results.toList (fun l => Fin K (tupl l) st') → LeavesInM (fen none) 7 P fn a'.tmps (fun e w' => ∃ G' r st' v', K r st' ∧ e = .returned v' ∧ Ext G w G' w' ∧ Inv G' w' st' ∧ RV G' w' r v') a'.defers .returning w' := by
    intro hr
    refine leaves_marks h4.defers fun w2 ⟨k1, k2, k3, k4⟩ => ?_
    have i3 := h3.sc k3 (Nat.le_of_eq k1.symm)
    -- the slots behind the marks
    have e4 : RE fn.ntmps G' w2 env' { a' with defers := [] } := ⟨h4.size, by have := h4.defers.B; show G'.B ≤ _; rw [k1]; exact this, fun t r hl => let ⟨v, q1, q2⟩ := h4.at_ t r hl; ⟨v, q1, q2.sc k3⟩⟩
    obtain ⟨l, us, ⟨D, st2, r', hv1, hv2, hK⟩, h6, h7, h8⟩ := vres_ok TP i3 e4 hr
    have hkept : ∀ k, G.X k → w2.heap[k]? = w.heap[k]? := fun k hk => by
      have hlt := hI.X k hk
      rw [k4 k (fun d hd ht => by
        have := h4.defers.ge d hd k ht
        rw [h2.B] at this
        have : w.heap.size ≤ k := this
        omega)]
      exact h2.kept k hk
    have hx : Ext G w ((G'.frz D st' w2).base G.B) w2 := by
      have hf := (Ext.frz G' D st' w2)
      refine ⟨⟨by rw [k1]; exact h2.size, fun i hi => h2.U i hi, fun k hk => .inl (h2.X k hk), hkept, fun i hi => ?_, fun i g sz hi hb2 cs e hc => ?_⟩, fun i hi => h2.R i hi, fun i hi hu => h2.res i hi hu, ⟨k2.1.trans h2.out.1, k2.2.1.trans h2.out.2.1, k2.2.2.trans h2.out.2.2⟩, rfl⟩
      · rcases hf.live i (h2.U i hi) with q | q
        · exact .inl q
        · rcases h2.live i hi with q2 | q2
          · exact .inl (q.trans q2)
          · exact .inr (q.trans q2)
      · have hb3 : G'.b i = some (g, sz) := by
          rcases hf.live i (h2.U i hi) with q | q
          · have : (G'.frz D st' w2).b i = some (g, sz) := hb2
            rw [q] at this; cases this
          · rw [← q]; exact hb2
        obtain ⟨cs', q1, q2⟩ := h2.shape i g sz hi hb3 cs e hc
        exact ⟨cs', k3 _ _ _ _ q1, q2⟩
    refine ⟨_, results_eq h6, _, r', st2, _, hK, rfl, hx, (i3.frz D hv2).base _, ?_⟩

    refine (hv1.ok i3 ?_).exts (base_exts _ w2 _)
    match l, us, h7, h8 with
    | [r], [u], _, h8 => exact h8 0 r u rfl rfl
    | [], [], _, _ => exact .t [] #[] rfl (fun j x v h _ => by simp at h)
    | r :: r2 :: l, u :: u2 :: us, h7, h8 =>
      have : ¬ (u :: u2 :: us).toArray.size = 1 := by simp
      rw [dif_neg this]
      exact .t _ _ (by simpa using h7) (fun j x v a b => h8 j x v a (by simpa using b))
  cases e with
  | normal => exact fin h1
  | ret => exact fin h1
  | _ => exact h1.elim
/-- arguments are seen otherwise -/
theorem Does.args {f : FuncId} {as as' : List AV} {st : Sto} {K : AV → Sto → Prop} (hl : as'.length = as.length) (hv : ∀ (j : Nat) r r', as[j]? = some r → as'[j]? = some r' → FV (fun _ => false) st r r') (h : Does P f as' st K) : Does P f as st K := by
  refine ⟨h.fn, fun G w vs hI hr => ?_⟩
  have h2 := h.out (G.frz (fun _ => false) st w) w vs (hI.frz _ (fun id o ho => ⟨ho, rfl⟩)) ⟨by rw [hr.1, hl], fun j r' v h1 h2 => ?_⟩
  · exact h2.mono fun e w' ⟨G', r, s, v, k1, k2, k3, k4⟩ => ⟨G', r, s, v, k1, k2, (Ext.frz G _ st w).trans k3, k4⟩
  · have hlt : j < as.length := by rw [← hl]; exact (List.getElem?_eq_some_iff.1 h1).1
    exact (hv j _ r' (List.getElem?_eq_getElem hlt) h1).ok hI (hr.2 j _ v (List.getElem?_eq_getElem hlt) h2)
end Go.Proofs.YtbmgenifdlgbmaaGreat.D.Pm
namespace Go.Proofs.YtbmgenifdlgbmaaGreat.D.Pm
set_option linter.unusedVariables false
set_option linter.unusedSimpArgs false
open Go
inductive TTree where
  | nil
  | node (l : TTree) (k : Nat) (i : TI) (r : TTree)
def TTree.get : TTree → TT
  | .nil, _ => none
  | .node l k i r, t => if t = k then some i else if t < k then l.get t else r.get t
def TTree.all (f : Nat → TI → Bool) : TTree → Bool
  | .nil => true
  | .node l k i r => f k i && l.all f && r.all f
theorem TTree.all_get {f : Nat → TI → Bool} : ∀ {T : TTree}, T.all f = true → ∀ {t : Nat} {i : TI}, T.get t = some i → f t i = true
  | .nil, _, t, i, hg => by cases hg
  | .node l k j r, h, t, i, hg => by
    simp only [TTree.all, Bool.and_eq_true] at h
    unfold TTree.get at hg
    split at hg
    · rename_i ht; cases hg; subst ht; exact h.1.1
    · split at hg
      · exact TTree.all_get h.1.2 hg
      · exact TTree.all_get h.2 hg
def veq : Value → Value → Bool
  | .bool a, .bool b => a == b
  | .int k a, .int k' b => decide (k = k') && decide (a = b)
  | .string a, .string b => decide (a = b)
  | .pointer none, .pointer none => true
  | .slice none a b, .slice none c d => decide (a = c) && decide (b = d)
  | .map none, .map none => true
  | .nilFunc, .nilFunc => true
  | .nilIface, .nilIface => true
  | _, _ => false
theorem veq_ok {a b : Value} (h : veq a b = true) : a = b ∧ a.oneCell' = true := by
  unfold veq at h
  split at h <;> first | exact ⟨rfl, rfl⟩ | (simp_all [Value.oneCell']; done) | cases h
def veqs : List Value → List Value → Bool
  | [], [] => true
  | a :: r, b :: q => veq a b && veqs r q
  | _, _ => false
theorem veqs_ok : ∀ {a b : List Value}, veqs a b = true → a = b ∧ ∀ x ∈ b, x.oneCell' = true
  | [], [], _ => ⟨rfl, fun x h => by cases h⟩
  | a :: r, b :: q, h => by
    simp only [veqs, Bool.and_eq_true] at h
    obtain ⟨h1, h2⟩ := veq_ok h.1
    obtain ⟨h3, h4⟩ := veqs_ok h.2
    subst h1 h3
    exact ⟨rfl, fun x hx => by
      rcases List.mem_cons.1 hx with rfl | hx
      · exact h2
      · exact h4 x hx⟩
  | [], _ :: _, h => by cases h
  | _ :: _, [], h => by cases h
def fseq : List Field → List (Nat × TypeId) → Bool
  | [], [] => true
  | f :: r, p :: q => decide (f.offset = p.1) && decide (f.type = p.2) && fseq r q
  | _, _ => false
theorem fseq_ok : ∀ {a : List Field} {b : List (Nat × TypeId)}, fseq a b = true → a.map (fun f => (f.offset, f.type)) = b
  | [], [], _ => rfl
  | f :: r, (o, t) :: q, h => by
    simp only [fseq, Bool.and_eq_true, decide_eq_true_eq] at h
    rw [List.map_cons, fseq_ok h.2, h.1.1, h.1.2]
  | [], _ :: _, h => by cases h
  | _ :: _, [], h => by cases h
def dchk : D → TypeDesc → Bool
  | .b, .bool => true
  | .i k, .int k' => decide (k = k')
  | .s, .string => true
  | .sl e, .slice e' => decide (e = e')
  | .st fs, .struct a => fseq a.toList fs
  | .pt e, .pointer e' => decide (e = e')
  | .fn, .func _ _ _ => true
  | .mp k e, .map k' e' => decide (k = k') && decide (e = e')
  | .ay n e, .array n' e' => decide (n = n') && decide (e = e')
  | _, _ => false
theorem dchk_ok {d : D} {t : TypeDesc} (h : dchk d t = true) : d.is t := by
  cases d <;> cases t <;> simp [dchk] at h <;> simp [D.is, h]
  case st.struct fs a => exact fseq_ok h
def tchq (P : Program) (t : Nat) (i : TI) : Bool :=
  match i.d with
  | .st _ => !P.stoodInHeld t && (!P.eqGuardType P.depth t && match P.underlying t with
    | some (.struct a) => a.toList.all fun f => !decide (f.name = "_")
    | _ => true)
  | _ => true
theorem tchq_ok {P : Program} {t : Nat} {i : TI} (h : tchq P t i = true) : ∀ fs, i.d = .st fs → P.stoodInHeld t = false ∧ P.eqGuardType P.depth t = false ∧ ∀ a, P.underlying t = some (.struct a) → ∀ f ∈ a.toList, f.name ≠ "_" := by
  intro fs hd
  unfold tchq at h
  rw [hd] at h
  simp only [Bool.and_eq_true, Bool.not_eq_true'] at h
  refine ⟨h.1, h.2.1, fun a ha f hf => ?_⟩
  have h2 := h.2.2
  rw [ha] at h2
  have := List.all_eq_true.1 h2 f hf
  simpa using this
def tchk (P : Program) (t : Nat) (i : TI) : Bool :=
  tchq P t i && match P.underlying t, P.info? t with
  | some d, some n => dchk i.d d && (n.size == i.size && (n.bytes == i.bytes && (i.z.length == i.size && match n.zero with
    | some z => veqs z.cells.toList i.z
    | none => false)))
  | _, _ => false
theorem tok {P : Program} {T : TTree} (h : T.all (tchk P) = true) : TOk P T.get := by
  have key : ∀ t i, T.get t = some i → ∃ d n z, P.underlying t = some d ∧ P.info? t = some n ∧ i.d.is d ∧ n.size = i.size ∧ n.bytes = i.bytes ∧ i.z.length = i.size ∧ n.zero = some z ∧ z.cells.toList = i.z ∧ ∀ x ∈ i.z, x.oneCell' = true := by
    intro t i ht
    have hc := TTree.all_get h ht
    unfold tchk at hc
    rw [Bool.and_eq_true] at hc
    replace hc := hc.2
    split at hc
    · rename_i d n h1 h2
      simp only [Bool.and_eq_true, beq_iff_eq] at hc
      obtain ⟨c1, c2, c3, c4, c5⟩ := hc
      split at c5
      · rename_i z hz
        obtain ⟨e1, e2⟩ := veqs_ok c5
        exact ⟨d, n, z, h1, h2, dchk_ok c1, c2, c3, c4, hz, e1, e2⟩
      · cases c5
    · cases hc
  exact ⟨fun t i fs ht hd => by
    have hc := TTree.all_get h ht
    unfold tchk at hc
    rw [Bool.and_eq_true] at hc
    exact tchq_ok hc.1 fs hd, fun t i ht => let ⟨d, n, z, h1, h2, h3, _⟩ := key t i ht; ⟨d, h1, h3⟩, fun t i ht => let ⟨d, n, z, h1, h2, h3, h4, h5, h6, h7, h8, h9⟩ := key t i ht; ⟨n, h2, h4, h5, ⟨z, h7, h8, trivial⟩, h6, h9⟩⟩
end Go.Proofs.YtbmgenifdlgbmaaGreat.D.Pm
namespace Go.Proofs.YtbmgenifdlgbmaaGreat.D.Pm
set_option linter.unusedVariables false
set_option linter.unusedSimpArgs false
open Go
theorem onO_mk {α : Type} {o : Option α} {a : α} {F : α → Prop} (h : o = some a) (k : F a) : onO o F := onO_iff.2 ⟨a, h, k⟩
theorem ev2_mk {env : Env} {x : Operand} {c : AC} {F : AC → Prop} (h : ev env x = some (.c c)) (k : F c) : ev2 env x F := onO_mk h k
theorem vcmp_det {p : Prop} {K : AV → Prop} (h : vcmp p K) : ∃ r, K r ∧ vcmp p (fun r' => r' = r) := by
  classical
  by_cases hp : p
  · exact ⟨_, h.1 hp, fun _ => rfl, fun h => absurd hp h⟩
  · exact ⟨_, h.2 hp, fun h => absurd h hp, fun _ => rfl⟩
theorem vII_det {op : BinOp} {k : IntKind} {a b : Int} {K : AV → Prop} (h : vII op k a b K) : ∃ r, K r ∧ vII op k a b (fun r' => r' = r) := by
  cases op <;> simp only [vII] at h ⊢ <;> first
    | exact h.elim
    | exact vcmp_det h
    | exact ⟨_, h, rfl⟩
    | exact ⟨_, h.2, h.1, rfl⟩
theorem sBin_det {op : BinOp} {p : Prop} {K : AV → Prop} (h : sBin op p K) : ∃ r, K r ∧ sBin op p (fun r' => r' = r) := by
  unfold sBin at h ⊢
  split at h
  · exact vcmp_det h
  · exact vcmp_det h
  · exact h.elim
theorem vSS_det {op : BinOp} {a b : ByteArray} {K : AV → Prop} (h : vSS op a b K) : ∃ r, K r ∧ vSS op a b (fun r' => r' = r) := by
  cases op <;> simp only [vSS] at h ⊢ <;> first
    | exact h.elim
    | exact vcmp_det h
    | exact ⟨_, h, rfl⟩
    | exact ⟨_, h.2, h.1, rfl⟩
def sure (x : AC) : Bool := match x with | .sl _ _ => false | _ => true
theorem vnil_mono {x : AC} {K K' : Bool → Prop} (h : vnil x K) (hk : ∀ b, K b → K' b) : vnil x K' := by
  unfold vnil at h ⊢
  split at h <;> first | exact hk _ h | exact fun b hb => hk _ (h b hb) | exact h.elim
theorem vnil_det {x : AC} {K : Bool → Prop} (hs : sure x = true) (h : vnil x K) : ∃ r, K r ∧ vnil x (fun r' => r' = r) := by
  unfold vnil at h ⊢
  split at h <;> first | exact ⟨_, h, rfl⟩ | exact h.elim | (simp [sure] at hs)
theorem vbin_det {op : BinOp} {x y : AC} {K : AV → Prop} (hs : sure x = true) (h : vbin op x y K) : ∃ r, K r ∧ vbin op x y (fun r' => r' = r) := by
  unfold vbin at h ⊢
  split at h
  · split at h
    · exact ⟨_, h.2, h.1, rfl⟩
    · exact ⟨_, h.2, h.1, rfl⟩
    · rename_i h1 h2
      split at h
      · rename_i hk
        obtain ⟨r, k1, k2⟩ := vII_det h
        refine ⟨r, k1, ?_⟩
        rw [if_pos hk]
        exact k2
      · exact h.elim
  · exact vSS_det h
  · split at h
    · simp only [onB_iff] at h; exact ⟨_, h, by simp [onB_iff]⟩
    · simp only [onB_iff] at h; exact ⟨_, h, by simp [onB_iff]⟩
    · exact h.elim
  · split at h
    · split at h
      · rename_i hn
        obtain ⟨b, k1, k2⟩ := vnil_det hs h
        refine ⟨_, k1, ?_⟩
        rw [if_pos hn]
        exact vnil_mono k2 fun b' hb => by rw [hb]
      · exact h.elim
    · split at h
      · rename_i hn
        obtain ⟨b, k1, k2⟩ := vnil_det hs h
        refine ⟨_, k1, ?_⟩
        rw [if_pos hn]
        exact vnil_mono k2 fun b' hb => by rw [hb]
      · exact h.elim
    · exact h.elim
/-- operations of a draw whose value does not hang on when they come up -/
def dop (env : Env) (op : Op) : Bool :=
  match op with
  | .move _ | .assign _ | .pick .. | .load .. | .unOp .. | .fieldAddr .. | .indexAddr .. | .index .. | .extract .. | .convert .. | .build .. | .nilCheck _ => true
  | .slice _ _ _ _ none => true
  | .binOp _ _ x _ _ => match ev env x with
    | some (.c c) => sure c
    | some (.g _) => true
    | _ => false
  | .call { callee := .builtin .len, .. } => true
  | .call { callee := .builtin .max, .. } => true
  | _ => false
variable {P : Program} {T : TT} {env : Env} {st : Sto}
theorem rdv_det {p : AC} {F : List AC → Prop} (h : rdv st p F) : ∃ cs, F cs ∧ ∀ st', Le st st' → ∀ F' : List AC → Prop, F' cs → rdv st' p F' := by
  unfold rdv at h
  split at h
  · obtain ⟨cs, h1, h2⟩ := h; exact ⟨_, h2, fun st' hl F' h3 => ⟨cs, hl _ _ h1, h3⟩⟩
  · obtain ⟨z, rows, r, h1, h2, h3⟩ := h; exact ⟨_, h3, fun st' hl F' h4 => ⟨z, rows, r, hl _ _ h1, h2, h4⟩⟩
  · exact ⟨_, h, fun st' hl F' h4 => h4⟩
  · exact h.elim
theorem ixv_det {sz : Nat} {x : AC} {i : Int} {F : AC → Prop} (h : ixv st sz x i F) : ∃ p, F p ∧ ∀ st', Le st st' → ∀ F' : AC → Prop, F' p → ixv st' sz x i F' := by
  unfold ixv at h
  split at h
  · split at h
    · rename_i hz
      obtain ⟨h1, h2, r, h3, h4⟩ := h
      exact ⟨_, h4, fun st' hl F' h5 => by simp only [ixv, if_pos hz]; exact ⟨h1, h2, r, h3, h5⟩⟩
    · exact h.elim
  · obtain ⟨h1, h2, ⟨rows, h3⟩, h4⟩ := h; exact ⟨_, h4, fun st' hl F' h5 => ⟨h1, h2, ⟨rows, hl _ _ h3⟩, h5⟩⟩
  · exact h.elim
theorem bd_det {x : Option Operand} {d : Int} {F : Int → Prop} (h : bd env x d F) : ∃ n, F n ∧ ∀ F' : Int → Prop, F' n → bd env x d F' := by
  unfold bd at h
  split at h
  · exact ⟨_, h, fun F' h' => h'⟩
  · obtain ⟨r, h1, h2⟩ := onO_iff.1 h
    split at h2
    · exact ⟨_, h2, fun F' h' => onO_mk h1 h'⟩
    · exact h2.elim
theorem bnd_det {lo hi : Option Operand} {n : Nat} {F : Nat → Nat → Prop} (h : bnd env lo hi n F) : ∃ l m, F l m ∧ ∀ F' : Nat → Nat → Prop, F' l m → bnd env lo hi n F' := by
  obtain ⟨h', h1, h2⟩ := bd_det h
  obtain ⟨l', ⟨k1, k2, k3, k4⟩, h4⟩ := bd_det h1
  exact ⟨_, _, k4, fun F' hf => h2 _ (h4 _ ⟨k1, k2, k3, hf⟩)⟩
theorem vcvt_det {src dst : TypeId} {x : AC} {F : AC → Prop} (h : vcvt T src dst x st F) : ∃ y, F y ∧ ∀ st' (F' : AC → Prop), F' y → vcvt T src dst x st' F' := by
  unfold vcvt at h
  split at h
  · obtain ⟨h0, h⟩ := h
    obtain ⟨i, h1, h2⟩ := onO_iff.1 h
    split at h2
    · rename_i hd; exact ⟨_, h2, fun st' F' h' => ⟨h0, onO_mk h1 (by rw [hd]; exact h')⟩⟩
    · exact h2.elim
  · obtain ⟨h0, h⟩ := h
    obtain ⟨i, h1, h2⟩ := onO_iff.1 h
    split at h2
    · rename_i hd; exact ⟨_, h2, fun st' F' h' => ⟨h0, onO_mk h1 (by rw [hd]; exact h')⟩⟩
    · exact h2.elim
  · exact h.elim
theorem vblt_det {b : Builtin} {ts : List TypeId} {xs : List Operand} (hb : b = .len ∨ b = .max) {K : AV → Prop} (h : vblt T env st b ts xs fun r _ => K r) : ∃ r, K r ∧ ∀ st', vblt T env st' b ts xs fun r' s => r' = r ∧ s = st' := by
  unfold vblt at h
  split at h
  · obtain ⟨c, h1, h⟩ := ev2_ok h
    obtain ⟨i, h2, h⟩ := onO_iff.1 h
    obtain ⟨n, h3, h⟩ := onO_iff.1 h
    split at h
    · rename_i hc; exact ⟨_, h, fun st' => ev2_mk h1 (onO_mk h2 (onO_mk h3 (by rw [if_pos hc]; exact ⟨rfl, rfl⟩)))⟩
    · exact h.elim
  · rcases hb with hb | hb <;> cases hb
  · obtain ⟨x, h1, h⟩ := onO_iff.1 h
    obtain ⟨y, h2, h⟩ := onO_iff.1 h
    unfold onI at h
    split at h
    · split at h
      · split at h
        · rename_i hk; exact ⟨_, h, fun st' => onO_mk h1 (onO_mk h2 (by simp [onI, hk]))⟩
        · exact h.elim
      · exact h.elim
    · exact h.elim
  · exact h.elim
theorem det {op : Op} {K : AV → Prop} (hd : dop env op = true) (h : vop P T env st op fun r _ => K r) : ∃ r, K r ∧ ∀ st', Le st st' → vop P T env st' op fun r' s => r' = r ∧ s = st' := by
  cases op
  case move x => obtain ⟨r, h1, h⟩ := onO_iff.1 h; exact ⟨r, h, fun st' _ => onO_mk h1 ⟨rfl, rfl⟩⟩
  case assign x => obtain ⟨r, h1, h⟩ := onO_iff.1 h; exact ⟨r, h, fun st' _ => onO_mk h1 ⟨rfl, rfl⟩⟩
  case pick c x y =>
    obtain ⟨r, h1, hr⟩ := onO_iff.1 h
    obtain ⟨b, hb, h⟩ := onT_iff.1 hr
    subst hb
    cases b
    · obtain ⟨r, h2, h⟩ := onO_iff.1 h; exact ⟨r, h, fun st' _ => onO_mk h1 (onO_mk h2 ⟨rfl, rfl⟩)⟩
    · obtain ⟨r, h2, h⟩ := onO_iff.1 h; exact ⟨r, h, fun st' _ => onO_mk h1 (onO_mk h2 ⟨rfl, rfl⟩)⟩
  case load t p =>
    obtain ⟨c, h1, h⟩ := ev2_ok h
    obtain ⟨cs, h, h2⟩ := rdv_det h
    obtain ⟨r, h3, h⟩ := onO_iff.1 h
    exact ⟨r, h, fun st' hl => ev2_mk h1 (h2 st' hl _ (onO_mk h3 ⟨rfl, rfl⟩))⟩
  case unOp op t x =>
    obtain ⟨r, h1, hr⟩ := onO_iff.1 h
    split at hr
    · obtain ⟨b, hb, h⟩ := onT_iff.1 hr
      exact ⟨_, h, fun st' _ => onO_mk h1 (onT_iff.2 ⟨b, hb, rfl, rfl⟩)⟩
    · unfold onI at hr
      split at hr
      · exact ⟨_, hr, fun st' _ => onO_mk h1 ⟨rfl, rfl⟩⟩
      · exact hr.elim
    · exact hr.elim
  case fieldAddr t x n =>
    obtain ⟨c, h1, h⟩ := ev2_ok h
    obtain ⟨i, h2, h⟩ := onO_iff.1 h
    obtain ⟨fs, h3, h⟩ := stE_ok h
    obtain ⟨f, h4, h⟩ := onO_iff.1 h
    obtain ⟨j, h5, h⟩ := onO_iff.1 h
    split at h
    · rename_i hz
      obtain ⟨q, h6, h⟩ := onO_iff.1 h
      exact ⟨_, h, fun st' _ => ev2_mk h1 (onO_mk h2 (by rw [h3]; exact onO_mk h4 (onO_mk h5 (by rw [if_pos hz]; exact onO_mk h6 ⟨rfl, rfl⟩))))⟩
    · exact h.elim
  case indexAddr t x y =>
    obtain ⟨c, h1, h⟩ := ev2_ok h
    obtain ⟨r, h2, hr⟩ := onO_iff.1 h
    unfold onI at hr
    split at hr
    · obtain ⟨i, h3, h⟩ := onO_iff.1 hr
      obtain ⟨e, h4, h⟩ := slE_ok h
      obtain ⟨j, h5, h⟩ := onO_iff.1 h
      obtain ⟨p, h, h6⟩ := ixv_det h
      exact ⟨_, h, fun st' hl => ev2_mk h1 (onO_mk h2 (onO_mk h3 (by rw [h4]; exact onO_mk h5 (h6 st' hl _ ⟨rfl, rfl⟩))))⟩
    · exact hr.elim
  case index t x y =>
    obtain ⟨c, h1, h⟩ := onO_iff.1 h
    obtain ⟨r, h2, hr⟩ := onO_iff.1 h
    unfold onI at hr
    split at hr
    · obtain ⟨i, h3, h⟩ := onO_iff.1 hr
      split at h
      · split at h
        · rename_i hs
          exact ⟨_, h.2.2, fun st' hl => onO_mk h1 (onO_mk h2 (onO_mk h3 (by show (if _ then _ else False); rw [if_pos hs]; exact ⟨h.1, h.2.1, rfl, rfl⟩)))⟩
        · exact h.elim
      · obtain ⟨m, e, he, h⟩ := ayE_ok h
        obtain ⟨z, h4, h5, h6, h⟩ := onO_iff.1 h
        obtain ⟨r, h7, h⟩ := onO_iff.1 h
        exact ⟨r, h, fun st' hl => onO_mk h1 (onO_mk h2 (onO_mk h3 (by show ayE _ _; rw [he]; exact onO_mk h4 ⟨h5, h6, onO_mk h7 ⟨rfl, rfl⟩⟩)))⟩
      · exact h.elim
    · exact hr.elim
  case extract x n =>
    obtain ⟨r, h1, hr⟩ := onO_iff.1 h
    split at hr
    · obtain ⟨r, h2, h⟩ := onO_iff.1 hr
      exact ⟨_, h, fun st' _ => onO_mk h1 (onO_mk h2 ⟨rfl, rfl⟩)⟩
    · exact hr.elim
  case convert s d x =>
    obtain ⟨c, h1, h⟩ := ev2_ok h
    obtain ⟨y, h, h2⟩ := vcvt_det h
    exact ⟨_, h, fun st' _ => ev2_mk h1 (h2 st' _ ⟨rfl, rfl⟩)⟩
  case build t ps =>
    obtain ⟨rs, h1, h⟩ := onO_iff.1 h
    obtain ⟨i, h2, h⟩ := onO_iff.1 h
    obtain ⟨fs, h3, h⟩ := onO_iff.1 h
    split at h
    · rename_i hc
      obtain ⟨out, h4, h⟩ := onO_iff.1 h
      exact ⟨_, h, fun st' _ => onO_mk h1 (onO_mk h2 (onO_mk h3 (by show (if _ then _ else False); rw [if_pos hc]; exact onO_mk h4 ⟨rfl, rfl⟩)))⟩
    · exact h.elim
  case nilCheck x =>
    obtain ⟨c, h1, h⟩ := ev2_ok h
    refine ⟨.c c, ?_, fun st' _ => ev2_mk h1 ?_⟩
    · split at h <;> first | exact h | exact h.elim
    · split at h <;> first | exact ⟨rfl, rfl⟩ | exact h.elim
  case slice t x lo hi mx =>
    cases mx with
    | some m => exact h.elim
    | none =>
      obtain ⟨c, h1, h⟩ := ev2_ok h
      obtain ⟨i, h2, h⟩ := onO_iff.1 h
      split at h
      · split at h
        · rename_i hs
          obtain ⟨l, m, h, h3⟩ := bnd_det h
          exact ⟨_, h, fun st' _ => ev2_mk h1 (onO_mk h2 (by show (if _ then _ else False); rw [if_pos hs]; exact h3 _ ⟨rfl, rfl⟩))⟩
        · exact h.elim
      · obtain ⟨e, h3, h⟩ := slE_ok h
        obtain ⟨j, h4, h⟩ := onO_iff.1 h
        split at h
        · rename_i hz
          obtain ⟨l, m, h, h5⟩ := bnd_det h
          exact ⟨_, h, fun st' _ => ev2_mk h1 (onO_mk h2 (by rw [h3]; exact onO_mk h4 (by show (if _ then _ else False); rw [if_pos hz]; exact h5 _ ⟨rfl, rfl⟩)))⟩
        · exact h.elim
      · obtain ⟨e, h3, h⟩ := slE_ok h
        obtain ⟨j, h4, ⟨rows, h5⟩, h⟩ := onO_iff.1 h
        obtain ⟨l, m, h, h6⟩ := bnd_det h
        exact ⟨_, h, fun st' hl => ev2_mk h1 (onO_mk h2 (by rw [h3]; exact onO_mk h4 ⟨⟨rows, hl _ _ h5⟩, h6 _ ⟨rfl, rfl⟩⟩))⟩
      · exact h.elim
  case binOp op t x y ty =>
    obtain ⟨c0, h1, h⟩ := onO_iff.1 h
    split at h
    · rename_i c
      obtain ⟨d, h2, h⟩ := ev2_ok h
      obtain ⟨i, h3, h⟩ := onO_iff.1 h
      split at h
      · rename_i hc
        have hs : sure c = true := by simp only [dop, h1] at hd; exact hd
        obtain ⟨r, h, h4⟩ := vbin_det hs h
        refine ⟨r, h, fun st' _ => onO_mk h1 (ev2_mk h2 (onO_mk h3 ?_))⟩
        rw [if_pos hc]
        have e : (fun r' : AV => r' = r ∧ st' = st') = fun r' => r' = r := by funext r'; simp
        rw [e]; exact h4
      · exact h.elim
    · obtain ⟨r', h2, h⟩ := onO_iff.1 h
      split at h
      · obtain ⟨i, h3, h⟩ := onO_iff.1 h
        obtain ⟨fs, h4, h⟩ := stE_ok h
        obtain ⟨p, h, h5⟩ := eqP_det h
        obtain ⟨r, h, h6⟩ := sBin_det h
        exact ⟨r, h, fun st' _ => onO_mk h1 (onO_mk h2 (onO_mk h3 (by
          rw [h4]
          refine h5 _ ?_
          have e : (fun r' : AV => r' = r ∧ st' = st') = fun r' => r' = r := by funext r'; simp
          rw [e]; exact h6)))⟩
      · exact h.elim
    · exact h.elim
  case call c =>
    obtain ⟨callee, args, ats⟩ := c
    cases callee with
    | builtin b =>
      have hb : b = .len ∨ b = .max := by cases b <;> first | exact .inl rfl | exact .inr rfl | cases hd
      obtain ⟨r, h, h1⟩ := vblt_det hb h
      exact ⟨r, h, fun st' _ => h1 st'⟩
    | _ => cases hd
  all_goals cases hd
end Go.Proofs.YtbmgenifdlgbmaaGreat.D.Pm
namespace Go.Proofs.YtbmgenifdlgbmaaGreat.D.Pm
set_option linter.unusedVariables false
set_option linter.unusedSimpArgs false
open Go
/-! ### regions that draw their order -/
theorem evs_congr {env env' : Env} : ∀ {xs : List Operand}, (∀ x ∈ xs, ev env x = ev env' x) → evs env xs = evs env' xs
  | [], _ => rfl
  | x :: xs, h => by simp only [evs, h x (List.mem_cons_self ..), evs_congr (fun y hy => h y (List.mem_cons_of_mem _ hy))]
theorem parts_congr {env env' : Env} : ∀ {xs : List (Nat × Operand)}, (∀ x ∈ xs, ev env x.2 = ev env' x.2) → parts env xs = parts env' xs
  | [], _ => rfl
  | (i, x) :: xs, h => by simp only [parts, h (i, x) (List.mem_cons_self ..), parts_congr (fun y hy => h y (List.mem_cons_of_mem _ hy))]
theorem bd_congr {env env' : Env} {x : Option Operand} {d : Int} {Q : Int → Prop} (h : ∀ y, x = some y → ev env y = ev env' y) : bd env x d Q = bd env' x d Q := by
  cases x with
  | none => rfl
  | some y => simp only [bd, h y rfl]
theorem vop_congr {P : Program} {T : TT} {env env' : Env} {st : Sto} {op : Op} {K : AV → Sto → Prop} (h : ∀ x ∈ op.operands, ev env x = ev env' x) (hv : vop P T env st op K) : vop P T env' st op K := by
  have e : vop P T env st op K = vop P T env' st op K := by
    cases op
    case call c =>
      obtain ⟨callee, args, ats⟩ := c
      have ha : ∀ x ∈ args.toList, ev env x = ev env' x := fun x hx => h x (by simp [Op.operands, Call.operands, Array.mem_toList_iff.1 hx])
      cases callee with
      | value f =>
        have hf : ev env f = ev env' f := h f (by simp [Op.operands, Call.operands])
        simp only [vop, ev2, hf, evs_congr ha]
      | builtin b =>
        simp only [vop]
        unfold vblt
        split
        · rename_i he; rw [he] at ha; simp only [ev2, ha _ (List.mem_cons_self ..)]
        · rename_i he; rw [he] at ha; simp only [ev2, ha _ (List.mem_cons_self ..), ha _ (List.mem_cons_of_mem _ (List.mem_cons_self ..))]
        · rename_i he; rw [he] at ha; simp only [ev2, ha _ (List.mem_cons_self ..), ha _ (List.mem_cons_of_mem _ (List.mem_cons_self ..))]
        · rfl
      | invoke _ _ => rfl
    case build t ps =>
      have hp : ∀ x ∈ ps.toList, ev env x.2 = ev env' x.2 := fun x hx => h x.2 (by simp only [Op.operands, List.mem_toArray, List.mem_map]; exact ⟨x, hx, rfl⟩)
      simp only [vop, parts_congr hp]
    case buildSlice t n ps =>
      have hp : ∀ x ∈ ps.toList, ev env x.2 = ev env' x.2 := fun x hx => h x.2 (by simp only [Op.operands, List.mem_toArray, List.mem_map]; exact ⟨x, hx, rfl⟩)
      simp only [vop, parts_congr hp]
    case makeFunc fn first caps =>
      have hp : ∀ x ∈ caps.toList, ev env x = ev env' x := fun x hx => h x (by simp [Op.operands, Array.mem_toList_iff.1 hx])
      cases fn <;> simp only [vop, evs_congr hp]
    case slice t x lo hi mx =>
      have hx : ev env x = ev env' x := h x (by simp [Op.operands])
      have hl : ∀ y, lo = some y → ev env y = ev env' y := fun y hy => h y (by simp [Op.operands, hy])
      have hh : ∀ y, hi = some y → ev env y = ev env' y := fun y hy => h y (by simp [Op.operands, hy])
      cases mx with
      | some m => rfl
      | none =>
        have hb : ∀ n F, bnd env lo hi n F = bnd env' lo hi n F := fun n F => by simp only [bnd, bd_congr hl, bd_congr hh]
        simp only [vop, ev2, hx, hb]
    all_goals first
      | rfl
      | (simp only [Op.operands, List.mem_toArray, List.forall_mem_cons, List.not_mem_nil, false_implies, implies_true, and_true] at h; simp only [vop, ev2, h])
  exact e ▸ hv
/-- edges that bind -/
def edg (ops : Array Oper) (i : Nat) : List Nat := ((ops[i]?).map fun o => (o.after.toList.filter (Region.binds .any)).map (·.on)).getD []
def mkA (ops : Array Oper) : Nat → List (List Nat)
  | 0 => []
  | i + 1 => let M := mkA ops i; M ++ [((edg ops i).flatMap fun d => d :: M.getD d []).eraseDups]
/-- the table M names, for each operation, only such as come up before it; and edges go back -/
def ancOk (ops : Array Oper) (M : List (List Nat)) : Bool :=
  (List.range ops.size).all fun i => (edg ops i).all (fun d => decide (d < i)) && (M.getD i []).all fun j => decide (j < i) && ((edg ops i).contains j || (edg ops i).any fun d => (M.getD d []).contains j)
def dsts (ops : Array Oper) (t : Tmp) : List Nat := (List.range ops.size).filter fun j => (ops[j]?).bind (·.dst) == some t
def drawOk (ops : Array Oper) (M : List (List Nat)) : Bool :=
  ancOk ops M && (List.range ops.size).all fun i => match ops[i]? with
    | some o => (match o.dst with | some d => dsts ops d == [i] | none => true) &&
      (o.looksAt ops).all fun t => (dsts ops t).all fun j => (M.getD i []).contains j || (M.getD j []).contains i
    | none => true
theorem edg_ready {ops : Array Oper} {listed : Array Bool} {i : Nat} : i ∈ Region.ready .any ops listed ↔ i < ops.size ∧ listed.getD i true = false ∧ ∀ d ∈ edg ops i, listed.getD d false = true := by
  unfold Region.ready edg
  simp only [List.mem_filter, List.mem_range, Bool.and_eq_true, Bool.not_eq_true']
  constructor
  · rintro ⟨h1, h2, h3⟩
    refine ⟨h1, h2, fun d hd => ?_⟩
    rw [Array.getElem?_eq_getElem h1] at h3 hd
    simp only [Option.map_some, Option.getD_some, Array.all_eq_true_iff_forall_mem, Bool.or_eq_true, Bool.not_eq_true'] at h3 hd
    obtain ⟨e, he, rfl⟩ := List.mem_map.1 hd
    obtain ⟨he1, he2⟩ := List.mem_filter.1 he
    rcases h3 e (Array.mem_toList_iff.1 he1) with h | h
    · rw [he2] at h; cases h
    · exact h
  · rintro ⟨h1, h2, h3⟩
    refine ⟨h1, h2, ?_⟩
    rw [Array.getElem?_eq_getElem h1] at h3 ⊢
    simp only [Option.map_some, Option.getD_some, Array.all_eq_true_iff_forall_mem, Bool.or_eq_true, Bool.not_eq_true'] at h3 ⊢
    intro e he
    cases hb : Region.binds .any e
    · exact .inl rfl
    · exact .inr (h3 _ (List.mem_map.2 ⟨e, List.mem_filter.2 ⟨Array.mem_toList_iff.2 he, hb⟩, rfl⟩))
theorem ancOk_lt {ops : Array Oper} {M : List (List Nat)} (h : ancOk ops M = true) {i : Nat} (hi : i < ops.size) : (∀ d ∈ edg ops i, d < i) ∧ ∀ j ∈ M.getD i [], j < i ∧ (j ∈ edg ops i ∨ ∃ d ∈ edg ops i, j ∈ M.getD d []) := by
  have := List.all_eq_true.1 h i (List.mem_range.2 hi)
  simp only [Bool.and_eq_true, List.all_eq_true, decide_eq_true_eq, Bool.or_eq_true, List.contains_iff_mem, List.any_eq_true] at this
  exact ⟨this.1, fun j hj => this.2 j hj⟩
theorem anc_in {ops : Array Oper} {M : List (List Nat)} (h : ancOk ops M = true) {b : Nat → Prop} (hc : ∀ i, i < ops.size → b i → ∀ d ∈ edg ops i, b d) : ∀ (i : Nat), i < ops.size → (∀ d ∈ edg ops i, b d) → ∀ j ∈ M.getD i [], b j := by
  intro i
  induction i using Nat.strongRecOn with
  | _ i ih =>
    intro hi hd j hj
    obtain ⟨h1, h2⟩ := ancOk_lt h hi
    rcases (h2 j hj).2 with h3 | ⟨d, hde, h3⟩
    · exact hd j h3
    · have hlt := h1 d hde
      exact ih d hlt (by omega) (hc d (by omega) (hd d hde)) j h3
end Go.Proofs.YtbmgenifdlgbmaaGreat.D.Pm
namespace Go.Proofs.YtbmgenifdlgbmaaGreat.D.Pm
set_option linter.unusedVariables false
set_option linter.unusedSimpArgs false
open Go
/-- what an operation makes, if it makes something -/
def alOb (T : TT) (env : Env) (op : Op) : Option (Ob × (Nat → AV)) :=
  match op with
  | .alloc t => match T t with
    | some i => some (.bx (i.z.map .v), fun id => .c (.ptr id 0))
    | none => none
  | .box t x => match ev env x with
    | some (.c c) => some (.bx [c], fun id => .c (.ptr id 0))
    | some (.g cs) => some (.bx cs, fun id => .c (.ptr id 0))
    | _ => none
  | .buildSlice t n ps => match parts env ps.toList with
    | some ps => match T t with
      | some i => match i.d with
        | .sl e => match T e with
          | some z => if n * z.size ≤ 16777216 ∧ n ≤ maxLen then (match fillR z.size (List.replicate n (z.z.map .v)) ps with
            | some rows => some (.ar z.size rows, fun id => .c (.arr id 0 n))
            | none => none) else none
          | none => none
        | _ => none
      | none => none
    | none => none
  | _ => none
theorem alOb_ok {P : Program} {T : TT} (TP : TOk P T) {N : Nat} {env : Env} {o : Oper} {ob : Ob} {f : Nat → AV} (h : alOb T env o.op = some (ob, f)) {G : Gh} {w : World} {a : Act} {st : Sto} (hI : Inv G w st) (hE : RE N G w env a) (id : Nat) (hu : G.Fr id) :
    ∃ v w' sz, (execOp a.eval o).run P w = .ok (.value v) w' ∧ Ext G w (G.add id w.heap.size sz) w' ∧ Inv (G.add id w.heap.size sz) w' (upd st id ob) ∧ RV (G.add id w.heap.size sz) w' (f id) v := by
  obtain ⟨dst, op, ty, pos, after, guard⟩ := o
  have fin : ∀ (s : Sem Value), execOp a.eval ⟨dst, op, ty, pos, after, guard⟩ = (do pure (.value (← s))) → (∃ v w' sz, s.run P w = .ok v w' ∧ Ext G w (G.add id w.heap.size sz) w' ∧ Inv (G.add id w.heap.size sz) w' (upd st id ob) ∧ RV (G.add id w.heap.size sz) w' (f id) v) →
      ∃ v w' sz, (execOp a.eval ⟨dst, op, ty, pos, after, guard⟩).run P w = .ok (.value v) w' ∧ Ext G w (G.add id w.heap.size sz) w' ∧ Inv (G.add id w.heap.size sz) w' (upd st id ob) ∧ RV (G.add id w.heap.size sz) w' (f id) v := by
    rintro s he ⟨v, w', sz, h1, h2⟩
    exact ⟨v, w', sz, by rw [he]; simp [h1], h2⟩
  dsimp only at h
  cases op <;> simp only [alOb] at h <;> first | cases h | skip
  case alloc t =>
    split at h
    · rename_i i hi; cases h; exact fin (Instr.alloc t true (.tuple #[])) (by simp only [execOp]) (Runs.allocAt TP hI hi id hu)
    · cases h
  case box t x =>
    split at h
    · rename_i c hc; cases h; exact fin (Instr.box t (a.eval x)) (by simp only [execOp]) (Runs.boxAt (r := .c c) hI (ev_ok hE hc) (fun l e => by cases e) id hu)
    · rename_i c hc; cases h; exact fin (Instr.box t (a.eval x)) (by simp only [execOp]) (Runs.boxAt (r := .g c) hI (ev_ok hE hc) (fun l e => by cases e) id hu)
    · cases h
  case buildSlice t n ps =>
    split at h
    · rename_i pv hp
      split at h
      · rename_i i hi
        split at h
        · rename_i e hd
          split at h
          · rename_i z hz
            split at h
            · rename_i hc
              split at h
              · rename_i rows hr
                cases h
                exact fin (Instr.buildSlice t n (ps.map fun (i, x) => (i, a.eval x))) (by simp only [execOp]) (Runs.buildSliceAt TP hI hi hd hz hc.1 hc.2 (by simpa using parts_ok hE hp) hr id hu)
              · cases h
            · cases h
          · cases h
        · cases h
      · cases h
    · cases h
def stA (st0 : Sto) (M : List Nat) : List (Nat × Nat × Ob) → Sto
  | [] => st0
  | (j, id, ob) :: r => if M.contains j = true then upd (stA st0 M r) id ob else stA st0 M r
def stL (st0 : Sto) : List (Nat × Nat × Ob) → Sto
  | [] => st0
  | (_, id, ob) :: r => upd (stL st0 r) id ob
/-- what must hold ahead of one operation of a draw, for F behind it -/
def vone (P : Program) (T : TT) (st : Sto) (env : Env) (op : Op) (F : AV → Prop) : Prop :=
  match op with
  | .call { callee := .value f, args := args, argTypes := _ } => ev2 env f fun f => match f with
    | .fn f caps => onO (evs env args.toList) fun as => ∃ r, (∀ st', Le st st' → Does P f (as ++ caps.map .c) st' fun r' s => r' = r ∧ s = st') ∧ F r
    | _ => False
  | op => match dop env op with
    | true => vop P T env st op fun r _ => F r
    | false => False
def vdraw (P : Program) (T : TT) (N : Nat) (ops : Array Oper) (M : List (List Nat)) (st0 : Sto) (Q : Env → Sto → Prop) : Nat → List Oper → Env → List (Nat × Nat × Ob) → Prop
  | _, [], env, al => Q env (stL st0 al)
  | i, o :: rest, env, al =>
    let run : Prop := match alOb T env o.op with
      | some (ob, f) => ∀ id, stL st0 al id = none → vdraw P T N ops M st0 Q (i + 1) rest (put N env o.dst (f id)) ((i, id, ob) :: al)
      | none => vone P T (stA st0 (M.getD i []) al) env o.op fun r => vdraw P T N ops M st0 Q (i + 1) rest (put N env o.dst r) al
    match o.guard with
    | none => run
    | some (j, want) => onO ((ops[j]?).bind (·.dst)) fun d => onO (look env d) fun r => onG r (vdraw P T N ops M st0 Q (i + 1) rest (put N env o.dst (.t [])) al) fun b =>
        if b = want then run else vdraw P T N ops M st0 Q (i + 1) rest (put N env o.dst (.t [])) al
theorem vone_det {P : Program} {T : TT} {st : Sto} {env : Env} {op : Op} {F : AV → Prop} (h : vone P T st env op F) : ∃ r, F r ∧ ∀ st', Le st st' → vop P T env st' op fun r' s => r' = r ∧ s = st' := by
  unfold vone at h
  split at h
  · obtain ⟨c, h1, h⟩ := ev2_ok h
    split at h
    · obtain ⟨as, h2, r, h3, h4⟩ := onO_iff.1 h
      exact ⟨r, h4, fun st' hl => ev2_mk h1 (onO_mk h2 (h3 st' hl))⟩
    · exact h.elim
  · split at h
    · rename_i hd; exact det hd h
    · exact h.elim
/-- what an operation of a draw came to -/
structure Rc where
  r : AV
  al : Option Ob
variable (N : Nat) (ops : Array Oper)
def envK (env0 : Env) (rs : List Rc) (b : Nat → Bool) : Nat → Env
  | 0 => env0
  | k + 1 => match ops[k]?, rs[k]? with
    | some o, some c => match b k with
      | true => put N (envK env0 rs b k) o.dst c.r
      | false => envK env0 rs b k
    | _, _ => envK env0 rs b k
def alK (base : Nat) (rs : List Rc) : Nat → List (Nat × Nat × Ob)
  | 0 => []
  | k + 1 => match (rs[k]?).bind (·.al) with
    | some ob => (k, base + k, ob) :: alK base rs k
    | none => alK base rs k
def stB (st0 : Sto) (base : Nat) (rs : List Rc) (b : Nat → Bool) : Sto := fun i =>
  if base ≤ i then (match b (i - base) with | true => (rs[i - base]?).bind (·.al) | false => none) else st0 i
variable {N ops}
theorem look_put {env : Env} {dst : Option Tmp} {r : AV} {t : Tmp} (h : dst ≠ some t) : look (put N env dst r) t = look env t := by
  cases dst with
  | none => rfl
  | some d =>
    simp only [put]
    split
    · rw [look, if_neg (fun e => h (congrArg some e))]
    · rfl
theorem look_put_same {env : Env} {r : AV} {t : Tmp} : look (put N env (some t) r) t = if t < N then some r else look env t := by
  simp only [put]
  split
  · rw [look, if_pos rfl]
  · rfl
theorem look_put_congr {env env' : Env} {dst : Option Tmp} {r : AV} {t : Tmp} (h : look env t = look env' t) : look (put N env dst r) t = look (put N env' dst r) t := by
  by_cases hd : dst = some t
  · subst hd; rw [look_put_same, look_put_same, h]
  · rw [look_put hd, look_put hd, h]
theorem look_envK {env0 : Env} {rs : List Rc} {b b' : Nat → Bool} {t : Tmp} : ∀ (k : Nat), (∀ j, j < k → (ops[j]?).bind (·.dst) = some t → b j = b' j) → look (envK N ops env0 rs b k) t = look (envK N ops env0 rs b' k) t
  | 0, _ => rfl
  | k + 1, h => by
    have ih := look_envK (env0 := env0) (rs := rs) (b := b) (b' := b') (t := t) k (fun j hj => h j (by omega))
    unfold envK
    cases ho : ops[k]? with
    | none => exact ih
    | some o =>
      cases hr : rs[k]? with
      | none => exact ih
      | some c =>
        dsimp only
        by_cases hd : o.dst = some t
        · have := h k (Nat.lt_succ_self _) (by rw [ho]; exact hd)
          rw [this]
          cases b' k
          · exact ih
          · exact look_put_congr ih
        · cases b k <;> cases b' k <;> simp only [look_put hd, ih]
theorem envK_le {env0 : Env} {rs : List Rc} {b : Nat → Bool} {t : Tmp} {k n : Nat} (hk : k ≤ n) (h : ∀ j, k ≤ j → j < n → (ops[j]?).bind (·.dst) = some t → b j = false) : look (envK N ops env0 rs b n) t = look (envK N ops env0 rs b k) t := by
  induction n with
  | zero =>
    have hk0 : k = 0 := by omega
    subst hk0; rfl
  | succ n ih =>
    by_cases hkn : k = n + 1
    · subst hkn; rfl
    · have := ih (by omega) (fun j h1 h2 => h j h1 (by omega))
      rw [← this]
      conv => lhs; unfold envK
      cases ho : ops[n]? with
      | none => rfl
      | some o =>
        cases hr : rs[n]? with
        | none => rfl
        | some c =>
          dsimp only
          by_cases hd : o.dst = some t
          · rw [h n (by omega) (Nat.lt_succ_self _) (by rw [ho]; exact hd)]
          · cases b n
            · rfl
            · exact look_put hd
theorem envK_app {env0 : Env} {rs : List Rc} {b : Nat → Bool} {c : Rc} : ∀ {k : Nat}, k ≤ rs.length → envK N ops env0 (rs ++ [c]) b k = envK N ops env0 rs b k
  | 0, _ => rfl
  | k + 1, h => by
    unfold envK
    rw [List.getElem?_append_left (by omega), envK_app (by omega)]
theorem alK_app {base : Nat} {rs : List Rc} {c : Rc} : ∀ {k : Nat}, k ≤ rs.length → alK base (rs ++ [c]) k = alK base rs k
  | 0, _ => rfl
  | k + 1, h => by
    unfold alK
    rw [List.getElem?_append_left (by omega), alK_app (by omega)]
theorem stA_le {st0 : Sto} {base : Nat} {rs : List Rc} {b : Nat → Bool} {M : List Nat} (h0 : ∀ i, base ≤ i → st0 i = none) (hM : ∀ j ∈ M, b j = true) : ∀ k, Le (stA st0 M (alK base rs k)) (stB st0 base rs b)
  | 0, i, o, h => by
    have hlt : ¬ base ≤ i := fun hb => by have h' : st0 i = some o := h; rw [h0 i hb] at h'; cases h'
    unfold stB
    rw [if_neg hlt]; exact h
  | k + 1, i, o, h => by
    unfold alK at h
    cases hr : (rs[k]?).bind (·.al) with
    | none => rw [hr] at h; exact stA_le h0 hM k i o h
    | some ob =>
      rw [hr] at h
      unfold stA at h
      split at h
      · rename_i hk
        unfold upd at h
        split at h
        · rename_i hi
          cases h
          subst hi
          unfold stB
          rw [if_pos (by omega), show base + k - base = k by omega, hM k (List.contains_iff_mem.1 hk)]
          exact hr
        · exact stA_le h0 hM k i o h
      · exact stA_le h0 hM k i o h
theorem stL_le {st0 : Sto} {base : Nat} {rs : List Rc} {b : Nat → Bool} (h0 : ∀ i, base ≤ i → st0 i = none) : ∀ k, (∀ j, j < k → b j = true) → Le (stL st0 (alK base rs k)) (stB st0 base rs b)
  | 0, _, i, o, h => by
    have hlt : ¬ base ≤ i := fun hb => by have h' : st0 i = some o := h; rw [h0 i hb] at h'; cases h'
    unfold stB
    rw [if_neg hlt]; exact h
  | k + 1, hb, i, o, h => by
    unfold alK at h
    cases hr : (rs[k]?).bind (·.al) with
    | none => rw [hr] at h; exact stL_le h0 k (fun j hj => hb j (by omega)) i o h
    | some ob =>
      rw [hr] at h
      unfold stL upd at h
      split at h
      · rename_i hi
        cases h
        subst hi
        unfold stB
        rw [if_pos (by omega), show base + k - base = k by omega, hb k (by omega)]
        exact hr
      · exact stL_le h0 k (fun j hj => hb j (by omega)) i o h
theorem stL_fresh {st0 : Sto} {base : Nat} {rs : List Rc} (h0 : ∀ i, base ≤ i → st0 i = none) : ∀ k j, k ≤ j → stL st0 (alK base rs k) (base + j) = none
  | 0, j, _ => h0 _ (by omega)
  | k + 1, j, hj => by
    unfold alK
    cases hr : (rs[k]?).bind (·.al) with
    | none => exact stL_fresh h0 k j (by omega)
    | some ob =>
      unfold stL upd
      rw [if_neg (by omega)]
      exact stL_fresh h0 k j (by omega)
end Go.Proofs.YtbmgenifdlgbmaaGreat.D.Pm
namespace Go.Proofs.YtbmgenifdlgbmaaGreat.D.Pm
set_option linter.unusedVariables false
set_option linter.unusedSimpArgs false
open Go
theorem onO_mono {α : Type} {o : Option α} {F F' : α → Prop} (hk : ∀ a, F a → F' a) (h : onO o F) : onO o F' := by
  cases o <;> first | exact h.elim | exact hk _ h
theorem onC_mono {r : AV} {F F' : AC → Prop} (hk : ∀ a, F a → F' a) (h : onC r F) : onC r F' := by
  cases r <;> first | exact h.elim | exact hk _ h
theorem onT_mono {r : AV} {F F' : Bool → Prop} (hk : ∀ a, F a → F' a) (h : onT r F) : onT r F' := by
  obtain ⟨b, h1, h2⟩ := onT_iff.1 h; exact onT_iff.2 ⟨b, h1, hk _ h2⟩
theorem onI_mono {r : AV} {F F' : IntKind → Int → Prop} (hk : ∀ a b, F a b → F' a b) (h : onI r F) : onI r F' := by
  unfold onI at h ⊢
  split at h <;> first | exact hk _ _ h | exact h.elim
theorem ev2_mono {env : Env} {x : Operand} {F F' : AC → Prop} (hk : ∀ a, F a → F' a) (h : ev2 env x F) : ev2 env x F' := onO_mono (fun _ => onC_mono hk) h
theorem slE_mono {d : D} {F F' : TypeId → Prop} (hk : ∀ a, F a → F' a) (h : slE d F) : slE d F' := by
  cases d <;> first | exact h.elim | exact hk _ h
theorem stE_mono {d : D} {F F' : List (Nat × TypeId) → Prop} (hk : ∀ a, F a → F' a) (h : stE d F) : stE d F' := by
  cases d <;> first | exact h.elim | exact hk _ h
theorem ite_mono {p : Prop} [Decidable p] {F F' : Prop} (hk : F → F') (h : if p then F else False) : if p then F' else False := by
  split at h
  · rename_i hp; rw [if_pos hp]; exact hk h
  · exact h.elim
theorem vcmp_mono {p : Prop} {K K' : AV → Prop} (hk : ∀ r, K r → K' r) (h : vcmp p K) : vcmp p K' := ⟨fun hp => hk _ (h.1 hp), fun hp => hk _ (h.2 hp)⟩
theorem vII_mono {op : BinOp} {k : IntKind} {a b : Int} {K K' : AV → Prop} (hk : ∀ r, K r → K' r) (h : vII op k a b K) : vII op k a b K' := by
  cases op <;> simp only [vII] at h ⊢ <;> first | exact h.elim | exact vcmp_mono hk h | exact hk _ h | exact ⟨h.1, hk _ h.2⟩
theorem vbin_mono {op : BinOp} {x y : AC} {K K' : AV → Prop} (hk : ∀ r, K r → K' r) (h : vbin op x y K) : vbin op x y K' := by
  unfold vbin at h ⊢
  split at h
  · split at h
    · exact ⟨h.1, hk _ h.2⟩
    · exact ⟨h.1, hk _ h.2⟩
    · exact ite_mono (fun h => vII_mono hk h) h
  · cases op <;> simp only [vSS] at h ⊢ <;> first | exact h.elim | exact vcmp_mono hk h | exact hk _ h | exact ⟨h.1, hk _ h.2⟩
  · split at h
    · simp only [onB_iff] at h ⊢; exact hk _ h
    · simp only [onB_iff] at h ⊢; exact hk _ h
    · exact h.elim
  · split at h
    · exact ite_mono (fun h => vnil_mono h (fun b => hk _)) h
    · exact ite_mono (fun h => vnil_mono h (fun b => hk _)) h
    · exact h.elim
theorem rdv_mono {st : Sto} {p : AC} {F F' : List AC → Prop} (hk : ∀ a, F a → F' a) (h : rdv st p F) : rdv st p F' := by
  obtain ⟨cs, h1, h2⟩ := rdv_det h; exact h2 st (Le.refl _) _ (hk _ h1)
theorem ixv_mono {st : Sto} {sz : Nat} {x : AC} {i : Int} {F F' : AC → Prop} (hk : ∀ a, F a → F' a) (h : ixv st sz x i F) : ixv st sz x i F' := by
  obtain ⟨cs, h1, h2⟩ := ixv_det h; exact h2 st (Le.refl _) _ (hk _ h1)
theorem bnd_mono {env : Env} {lo hi : Option Operand} {n : Nat} {F F' : Nat → Nat → Prop} (hk : ∀ a b, F a b → F' a b) (h : bnd env lo hi n F) : bnd env lo hi n F' := by
  obtain ⟨l, m, h1, h2⟩ := bnd_det h; exact h2 _ (hk _ _ h1)
theorem srcv_mono {st : Sto} {sz : Nat} {y : AC} {F F' : List (List AC) → Prop} (hk : ∀ a, F a → F' a) (h : srcv st sz y F) : srcv st sz y F' := by
  unfold srcv at h ⊢
  split at h
  · exact ite_mono (hk _) h
  · obtain ⟨rows, h1, h2, h3⟩ := h; exact ⟨rows, h1, h2, hk _ h3⟩
  · exact hk _ h
  · exact ite_mono (hk _) h
  · exact h.elim
theorem wrv_mono {st : Sto} {p : AC} {vs : List AC} {F F' : Sto → Prop} (hk : ∀ a, F a → F' a) (h : wrv st p vs F) : wrv st p vs F' := by
  unfold wrv at h ⊢
  split at h
  · obtain ⟨cs, h1, h2, h3⟩ := h; exact ⟨cs, h1, h2, hk _ h3⟩
  · obtain ⟨sz, rows, r, h1, h2, h3, h4⟩ := h; exact ⟨sz, rows, r, h1, h2, h3, hk _ h4⟩
  · exact h.elim
theorem ntup_mono {r : AV} {F F' : Prop} (hk : F → F') (h : ntup r F) : ntup r F' := by
  cases r <;> first | exact h.elim | exact hk h
theorem vop_mono {P : Program} {T : TT} {env : Env} {st : Sto} {op : Op} {K K' : AV → Sto → Prop} (hk : ∀ r s, K r s → K' r s) (h : vop P T env st op K) : vop P T env st op K' := by
  cases op
  case move x => exact onO_mono (fun _ => hk _ _) h
  case assign x => exact onO_mono (fun _ => hk _ _) h
  case pick c x y => exact onO_mono (fun _ => onT_mono (fun b h => by cases b <;> exact onO_mono (fun _ => hk _ _) h)) h
  case alloc t => exact onO_mono (fun _ h id hi => hk _ _ (h id hi)) h
  case box t x => exact onO_mono (fun _ => ntup_mono (fun h id hi => hk _ _ (h id hi))) h
  case build t ps => exact onO_mono (fun _ => onO_mono (fun _ => onO_mono (fun _ => ite_mono (onO_mono (fun _ => hk _ _))))) h
  case buildSlice t n ps => exact onO_mono (fun _ => onO_mono (fun _ => slE_mono (fun _ => onO_mono (fun _ => ite_mono (onO_mono (fun _ h id hi => hk _ _ (h id hi))))))) h
  case load t p => exact ev2_mono (fun _ => rdv_mono (fun _ => onO_mono (fun _ => hk _ _))) h
  case store t p x => exact ev2_mono (fun _ => onO_mono (fun _ => onO_mono (fun _ => ntup_mono (ite_mono (wrv_mono (fun _ => hk _ _)))))) h
  case nilCheck x => exact ev2_mono (fun c h => by split at h <;> first | exact hk _ _ h | exact h.elim) h
  case binOp op t x y ty =>
    refine onO_mono (fun _ h => ?_) h
    split at h
    · exact ev2_mono (fun _ => onO_mono (fun _ => ite_mono (vbin_mono (fun _ => hk _ _)))) h
    · refine onO_mono (fun _ h => ?_) h
      split at h
      · refine onO_mono (fun _ => stE_mono (fun _ => eqP_mono (fun p h => ?_))) h
        unfold sBin at h ⊢
        split at h
        · exact vcmp_mono (fun _ => hk _ _) h
        · exact vcmp_mono (fun _ => hk _ _) h
        · exact h.elim
      · exact h.elim
    · exact h.elim
  case unOp op t x =>
    refine onO_mono (fun _ h => ?_) h
    split at h
    · exact onT_mono (fun _ => hk _ _) h
    · exact onI_mono (fun _ _ => hk _ _) h
    · exact h.elim
  case fieldAddr t x n => exact ev2_mono (fun _ => onO_mono (fun _ => stE_mono (fun _ => onO_mono (fun _ => onO_mono (fun _ => ite_mono (onO_mono (fun _ => hk _ _))))))) h
  case indexAddr t x y => exact ev2_mono (fun _ => onO_mono (fun _ => onI_mono (fun _ _ => onO_mono (fun _ => slE_mono (fun _ => onO_mono (fun _ => ixv_mono (fun _ => hk _ _))))))) h
  case index t x y =>
    refine onO_mono (fun _ => onO_mono (fun _ => onI_mono (fun _ _ => onO_mono (fun _ h => ?_)))) h
    split at h
    · exact ite_mono (fun h => ⟨h.1, h.2.1, hk _ _ h.2.2⟩) h
    · unfold ayE at h ⊢
      split at h
      · exact onO_mono (fun _ h => ⟨h.1, h.2.1, onO_mono (fun _ => hk _ _) h.2.2⟩) h
      · exact h.elim
    · exact h.elim
  case extract x n =>
    refine onO_mono (fun _ h => ?_) h
    split at h
    · exact onO_mono (fun _ => hk _ _) h
    · exact h.elim
  case makeFunc fn first caps =>
    cases fn with
    | func f => exact ite_mono (onO_mono (fun _ => onO_mono (fun _ => hk _ _))) h
    | _ => exact h.elim
  case makeSlice t l c => exact onO_mono (fun _ => onI_mono (fun _ _ => onO_mono (fun _ => onI_mono (fun _ _ => onO_mono (fun _ => slE_mono (fun _ => onO_mono (fun _ ⟨h1, h2, h3, h4, h5, h6, h7⟩ => ⟨h1, h2, h3, h4, h5, h6, fun id hi => hk _ _ (h7 id hi)⟩))))))) h
  case slice t x lo hi mx =>
    cases mx with
    | some m => exact h.elim
    | none =>
      refine ev2_mono (fun _ => onO_mono (fun _ h => ?_)) h
      split at h
      · exact ite_mono (bnd_mono (fun _ _ => hk _ _)) h
      · exact slE_mono (fun _ => onO_mono (fun _ => ite_mono (bnd_mono (fun _ _ => hk _ _)))) h
      · exact slE_mono (fun _ => onO_mono (fun _ h => ⟨h.1, bnd_mono (fun _ _ => hk _ _) h.2⟩)) h
      · exact h.elim
  case convert s d x =>
    refine ev2_mono (fun _ h => ?_) h
    obtain ⟨y, h1, h2⟩ := vcvt_det h
    exact h2 st _ (hk _ _ h1)
  case call c =>
    obtain ⟨callee, args, ats⟩ := c
    cases callee with
    | value f =>
      refine ev2_mono (fun _ h => ?_) h
      split at h
      · exact onO_mono (fun _ h => h.mono hk) h
      · exact h.elim
    | builtin b =>
      have h : vblt T env st b ats.toList args.toList K := h
      show vblt T env st b ats.toList args.toList K'
      unfold vblt at h ⊢
      split at h
      · exact ev2_mono (fun _ => onO_mono (fun _ => onO_mono (fun _ => ite_mono (hk _ _)))) h
      · refine ev2_mono (fun _ => ev2_mono (fun _ => onO_mono (fun _ => onO_mono (fun _ => slE_mono (fun _ => onO_mono (fun _ => ite_mono (srcv_mono (fun _ h => ⟨?_⟩)))))))) h
        replace h := h.out
        split at h
        · exact ⟨h.1, h.2.1, fun e => hk _ _ (h.2.2.1 e), fun e id hi => hk _ _ (h.2.2.2 e id hi)⟩
        · obtain ⟨h1, rows, h2, h3, h4, h5, h6⟩ := h
          exact ⟨h1, rows, h2, h3, h4, h5, fun id hi => hk _ _ (h6 id hi)⟩
        · exact h.elim
      · exact onO_mono (fun _ => onO_mono (fun _ => onI_mono (fun _ _ => onI_mono (fun _ _ => ite_mono (hk _ _))))) h
      · exact h.elim
    | invoke _ _ => exact h.elim
  all_goals exact h.elim
theorem alOb_congr {T : TT} {env env' : Env} {op : Op} (h : ∀ x ∈ op.operands, ev env x = ev env' x) {r : Ob × (Nat → AV)} (ha : alOb T env op = some r) : alOb T env' op = some r := by
  cases op <;> simp only [alOb] at ha ⊢ <;> first | cases ha | exact ha | skip
  case box t x => rw [← h x (by simp [Op.operands])]; exact ha
  case buildSlice t n ps =>
    have hp : ∀ x ∈ ps.toList, ev env x.2 = ev env' x.2 := fun x hx => h x.2 (by simp only [Op.operands, List.mem_toArray, List.mem_map]; exact ⟨x, hx, rfl⟩)
    rw [← parts_congr hp]; exact ha
end Go.Proofs.YtbmgenifdlgbmaaGreat.D.Pm
namespace Go.Proofs.YtbmgenifdlgbmaaGreat.D.Pm
set_option linter.unusedVariables false
set_option linter.unusedSimpArgs false
open Go
section
variable (P : Program) (T : TT) (N : Nat) (ops : Array Oper) (M : List (List Nat)) (st0 : Sto) (base : Nat) (env0 : Env)
/-- what is known of operation k -/
def Fact (rs : List Rc) (k : Nat) : Prop :=
  ∃ o c, ops[k]? = some o ∧ rs[k]? = some c ∧
    ((∃ j want d r, o.guard = some (j, want) ∧ (ops[j]?).bind (·.dst) = some d ∧ look (envK N ops env0 rs (fun _ => true) k) d = some r ∧ notIs r want ∧ c = ⟨.t [], none⟩) ∨
     ((o.guard = none ∨ ∃ j want d, o.guard = some (j, want) ∧ (ops[j]?).bind (·.dst) = some d ∧ look (envK N ops env0 rs (fun _ => true) k) d = some (.c (.v (.bool want)))) ∧
      ((∃ ob f, alOb T (envK N ops env0 rs (fun _ => true) k) o.op = some (ob, f) ∧ c = ⟨f (base + k), some ob⟩) ∨
       (c.al = none ∧ ∀ st', Le (stA st0 (M.getD k []) (alK base rs k)) st' → vop P T (envK N ops env0 rs (fun _ => true) k) st' o.op fun r' s => r' = c.r ∧ s = st'))))
end
variable {P : Program} {T : TT} {N : Nat} {ops : Array Oper} {M : List (List Nat)} {st0 : Sto} {base : Nat} {env0 : Env}
theorem Fact.app {rs : List Rc} {c : Rc} {k : Nat} (hk : k < rs.length) (h : Fact P T N ops M st0 base env0 rs k) : Fact P T N ops M st0 base env0 (rs ++ [c]) k := by
  unfold Fact at h ⊢
  rw [envK_app (by omega), alK_app (by omega), List.getElem?_append_left hk]
  exact h
theorem plan {Q : Env → Sto → Prop} (h0 : ∀ i, base ≤ i → st0 i = none) : ∀ (l : List Oper) (i : Nat) (rs : List Rc), rs.length = i → ops.toList.drop i = l → (∀ k, k < i → Fact P T N ops M st0 base env0 rs k) →
    vdraw P T N ops M st0 Q i l (envK N ops env0 rs (fun _ => true) i) (alK base rs i) →
    ∃ rs', rs'.length = ops.size ∧ (∀ k, k < ops.size → Fact P T N ops M st0 base env0 rs' k) ∧ Q (envK N ops env0 rs' (fun _ => true) ops.size) (stL st0 (alK base rs' ops.size))
  | [], i, rs, hl, hd, hf, h => by
    have hn : ops.size ≤ i := by
      have := congrArg List.length hd
      simp at this; omega
    by_cases he : i = ops.size
    · subst he; exact ⟨rs, hl, hf, h⟩
    · obtain ⟨o, c, ho, _⟩ := hf ops.size (by omega)
      simp at ho
  | o :: l, i, rs, hl, hd, hf, h => by
    have ho : ops[i]? = some o := by
      have := congrArg (·[0]?) hd
      simpa [List.getElem?_drop] using this
    have hd' : ops.toList.drop (i + 1) = l := by rw [← List.drop_drop, hd]; rfl
    have hi : i < ops.size := (Array.getElem?_eq_some_iff.1 ho).1
    -- one more
    have step : ∀ c : Rc, (Fact P T N ops M st0 base env0 (rs ++ [c]) i) → vdraw P T N ops M st0 Q (i + 1) l (put N (envK N ops env0 rs (fun _ => true) i) o.dst c.r) (match c.al with | some ob => (i, base + i, ob) :: alK base rs i | none => alK base rs i) →
        ∃ rs', rs'.length = ops.size ∧ (∀ k, k < ops.size → Fact P T N ops M st0 base env0 rs' k) ∧ Q (envK N ops env0 rs' (fun _ => true) ops.size) (stL st0 (alK base rs' ops.size)) := by
      intro c hfc hv
      refine plan h0 l (i + 1) (rs ++ [c]) (by simp [hl]) hd' (fun k hk => ?_) ?_
      · by_cases hki : k = i
        · subst hki; exact hfc
        · exact (hf k (by omega)).app (by omega)
      · have hc : (rs ++ [c])[i]? = some c := by rw [List.getElem?_append_right (by omega), hl]; simp
        have e1 : envK N ops env0 (rs ++ [c]) (fun _ => true) (i + 1) = put N (envK N ops env0 rs (fun _ => true) i) o.dst c.r := by
          conv => lhs; unfold envK
          rw [ho, hc]
          dsimp only
          rw [envK_app (by omega)]
        have e2 : alK base (rs ++ [c]) (i + 1) = (match c.al with | some ob => (i, base + i, ob) :: alK base rs i | none => alK base rs i) := by
          conv => lhs; unfold alK
          rw [hc, alK_app (by omega), Option.bind_some]
          all_goals (cases c.al <;> rfl)
        rw [e1, e2]
        exact hv
    have hgi : ∀ c : Rc, (rs ++ [c])[i]? = some c := fun c => by rw [List.getElem?_append_right (by omega), hl]; simp
    have hek : ∀ c : Rc, envK N ops env0 (rs ++ [c]) (fun _ => true) i = envK N ops env0 rs (fun _ => true) i := fun c => envK_app (by omega)
    have hak : ∀ c : Rc, alK base (rs ++ [c]) i = alK base rs i := fun c => alK_app (by omega)
    have run : ∀ (hg : o.guard = none ∨ ∃ j want d, o.guard = some (j, want) ∧ (ops[j]?).bind (·.dst) = some d ∧ look (envK N ops env0 rs (fun _ => true) i) d = some (.c (.v (.bool want)))),
        (match alOb T (envK N ops env0 rs (fun _ => true) i) o.op with
        | some (ob, f) => ∀ id, stL st0 (alK base rs i) id = none → vdraw P T N ops M st0 Q (i + 1) l (put N (envK N ops env0 rs (fun _ => true) i) o.dst (f id)) ((i, id, ob) :: alK base rs i)
        | none => vone P T (stA st0 (M.getD i []) (alK base rs i)) (envK N ops env0 rs (fun _ => true) i) o.op fun r => vdraw P T N ops M st0 Q (i + 1) l (put N (envK N ops env0 rs (fun _ => true) i) o.dst r) (alK base rs i)) →
        ∃ rs', rs'.length = ops.size ∧ (∀ k, k < ops.size → Fact P T N ops M st0 base env0 rs' k) ∧ Q (envK N ops env0 rs' (fun _ => true) ops.size) (stL st0 (alK base rs' ops.size)) := by
      intro hg hr
      cases ha : alOb T (envK N ops env0 rs (fun _ => true) i) o.op with
      | some p =>
        obtain ⟨ob, f⟩ := p
        rw [ha] at hr
        refine step ⟨f (base + i), some ob⟩ ⟨o, _, ho, hgi _, .inr ⟨?_, .inl ⟨ob, f, ?_, rfl⟩⟩⟩ (hr _ (stL_fresh h0 i i (Nat.le_refl _)))
        · rw [hek]; exact hg
        · rw [hek]; exact ha
      | none =>
        rw [ha] at hr
        obtain ⟨r, h1, h2⟩ := vone_det hr
        refine step ⟨r, none⟩ ⟨o, _, ho, hgi _, .inr ⟨?_, .inr ⟨rfl, ?_⟩⟩⟩ h1
        · rw [hek]; exact hg
        · rw [hek, hak]; exact h2
    unfold vdraw at h
    cases hgd : o.guard with
    | none =>
      rw [hgd] at h
      exact run (.inl hgd) h
    | some jw =>
      obtain ⟨j, want⟩ := jw
      rw [hgd] at h
      dsimp only at h
      obtain ⟨d, h1, hh1⟩ := onO_iff.1 h
      obtain ⟨r, h2, hh2⟩ := onO_iff.1 hh1
      rcases onG_ok hh2 with ⟨⟨l, rfl⟩, hh⟩ | ⟨b, rfl, hh⟩
      · exact step ⟨.t [], none⟩ ⟨o, _, ho, hgi _, .inl ⟨j, want, d, _, hgd, h1, by rw [hek]; exact h2, .inr ⟨l, rfl⟩, rfl⟩⟩ hh
      · by_cases hbw : b = want
        · rw [if_pos hbw] at hh
          exact run (.inr ⟨j, want, d, hgd, h1, hbw ▸ h2⟩) hh
        · rw [if_neg hbw] at hh
          exact step ⟨.t [], none⟩ ⟨o, _, ho, hgi _, .inl ⟨j, want, d, _, hgd, h1, by rw [hek]; exact h2, .inl ⟨b, rfl, hbw⟩, rfl⟩⟩ hh
/-- a set of operations, with one more -/
theorem filter_lt {p q : Nat → Bool} : ∀ {l : List Nat} {i : Nat}, i ∈ l → p i = true → q i = false → (∀ j, q j = true → p j = true) → (l.filter q).length < (l.filter p).length
  | a :: l, i, hi, hp, hq, h => by
    have le : ∀ l : List Nat, (l.filter q).length ≤ (l.filter p).length := by
      intro l
      induction l with
      | nil => simp
      | cons a l ih =>
        simp only [List.filter_cons]
        cases hqa : q a
        · cases p a <;> simp <;> omega
        · rw [h a hqa]; simp; exact ih
    simp only [List.filter_cons]
    rcases List.mem_cons.1 hi with rfl | hi
    · rw [hp, hq]; simp; exact Nat.lt_succ_of_le (le l)
    · have ih := filter_lt hi hp hq h
      cases hqa : q a
      · cases p a <;> simp <;> omega
      · rw [h a hqa]; simp; exact ih
def bUp (b : Nat → Bool) (i : Nat) : Nat → Bool := fun j => if j = i then true else b j
theorem drawOk_parts (h : drawOk ops M = true) : ancOk ops M = true ∧ ∀ i o, ops[i]? = some o → (∀ d, o.dst = some d → ∀ j, (ops[j]?).bind (·.dst) = some d → j = i) ∧ ∀ t ∈ o.looksAt ops, ∀ j, (ops[j]?).bind (·.dst) = some t → j ∈ M.getD i [] ∨ i ∈ M.getD j [] := by
  unfold drawOk at h
  rw [Bool.and_eq_true] at h
  refine ⟨h.1, fun i o ho => ?_⟩
  have hi : i < ops.size := (Array.getElem?_eq_some_iff.1 ho).1
  have h2 := List.all_eq_true.1 h.2 i (List.mem_range.2 hi)
  rw [ho] at h2
  dsimp only at h2
  rw [Bool.and_eq_true] at h2
  have mem : ∀ t j, (ops[j]?).bind (·.dst) = some t → j ∈ dsts ops t := fun t j hj => by
    have hlt : j < ops.size := by
      cases hq : ops[j]? with
      | none => rw [hq] at hj; cases hj
      | some q => exact (Array.getElem?_eq_some_iff.1 hq).1
    exact List.mem_filter.2 ⟨List.mem_range.2 hlt, by rw [hj]; simp⟩
  refine ⟨fun d hd j hj => ?_, fun t ht j hj => ?_⟩
  · have h3 := h2.1
    rw [hd] at h3
    have h4 : dsts ops d = [i] := by simpa using h3
    have := mem d j hj
    rw [h4] at this
    simpa using this
  · have h3 := List.all_eq_true.1 h2.2 t ht
    have h4 := List.all_eq_true.1 h3 j (mem t j hj)
    rw [Bool.or_eq_true, List.contains_iff_mem, List.contains_iff_mem] at h4
    exact h4
theorem looks_op {o : Oper} {t : Tmp} (h : Operand.tmp t ∈ o.op.operands) : t ∈ o.looksAt ops := by
  unfold Oper.looksAt
  refine List.mem_append.2 (.inl (List.mem_filterMap.2 ⟨_, Array.mem_toList_iff.2 h, rfl⟩))
theorem looks_guard {o : Oper} {j : Nat} {want : Bool} {d : Tmp} (hg : o.guard = some (j, want)) (hd : (ops[j]?).bind (·.dst) = some d) : d ∈ o.looksAt ops := by
  unfold Oper.looksAt
  rw [hg]
  refine List.mem_append.2 (.inr ?_)
  dsimp only
  rw [hd]
  simp
theorem hole {G : Gh} {w : World} {st : Sto} (hI : Inv G w st) (p : Nat → Prop) : Inv ⟨G.U, fun i => G.R i ∧ p i, G.b, G.X, G.B⟩ w st ∧ ExtS G w ⟨G.U, fun i => G.R i ∧ p i, G.b, G.X, G.B⟩ w := by
  have hx : ExtS G w ⟨G.U, fun i => G.R i ∧ p i, G.b, G.X, G.B⟩ w := ⟨Nat.le_refl _, fun _ h => h, fun _ h => h, fun _ _ => rfl, fun _ _ => .inr rfl, fun _ _ _ _ _ cs e h => ⟨cs, h, rfl⟩⟩
  refine ⟨⟨fun id o ho => ?_, hI.lt, hI.inj, hI.X, ?_⟩, hx⟩
  · obtain ⟨g, sz, cs, e, a, b, c, d, f, k⟩ := hI.obj id o ho
    exact ⟨g, sz, cs, e, a, b, c, d, f, fun j x v p q => (k j x v p q).exts hx⟩
  · obtain ⟨n, hn⟩ := hI.new
    exact ⟨n, fun i hi => hn i (hi.imp id (fun h => h.1))⟩
/-- operations in whichever order -/
theorem draw_any {ρ : Option Nat} (TP : TOk P T) (hok : drawOk ops M = true) {rs : List Rc} (hrs : rs.length = ops.size) (hf : ∀ k, k < ops.size → Fact P T N ops M st0 base env0 rs k) (h0 : ∀ i, base ≤ i → st0 i = none) {Q : Exit → Act → World → Prop}
    {G0 : Gh} {w0 : World} (hb0 : ∀ i, base ≤ i → ¬ G0.R i) (fin : ∀ G w a, Ext G0 w0 G w → Inv G w (stB st0 base rs (fun _ => true)) → RE N G w (envK N ops env0 rs (fun _ => true) ops.size) a → Q .normal a w) :
    ∀ (fuel : Nat) (listed : Array Bool) (b : Nat → Bool), listed.size = ops.size → (∀ i, i < ops.size → listed.getD i true = b i) → (∀ i, i < ops.size → b i = true → ∀ d ∈ edg ops i, b d = true) → ((List.range ops.size).filter fun i => !b i).length ≤ fuel →
      ∀ G w a, Ext G0 w0 G w → Inv G w (stB st0 base rs b) → (∀ k, k < ops.size → b k = false → ¬ G.U (base + k) ∧ G.R (base + k)) → RE N G w (envK N ops env0 rs b ops.size) a → wpAnyIn (fen ρ) 7 P .any ops Q fuel listed a w := by
  obtain ⟨hanc, hpar⟩ := drawOk_parts hok
  -- nothing is ready: all has been
  have allDone : ∀ (listed : Array Bool) (b : Nat → Bool), listed.size = ops.size → (∀ i, i < ops.size → listed.getD i true = b i) → Region.ready .any ops listed = [] → ∀ i, i < ops.size → b i = true := by
    intro listed b hsz hlb hr i
    induction i using Nat.strongRecOn with
    | _ i ih =>
      intro hi
      cases hb : b i with
      | true => rfl
      | false =>
        have : i ∈ Region.ready .any ops listed := edg_ready.2 ⟨hi, by rw [hlb i hi]; exact hb, fun d hd => by
          have hdi := (ancOk_lt hanc hi).1 d hd
          have := hlb d (by omega)
          rw [ih d hdi (by omega)] at this
          have hds : d < listed.size := by omega
          rw [Array.getD_eq_getD_getElem?, Array.getElem?_eq_getElem hds] at this ⊢
          exact this⟩
        rw [hr] at this
        cases this
  have done : ∀ (listed : Array Bool) (b : Nat → Bool), listed.size = ops.size → (∀ i, i < ops.size → listed.getD i true = b i) → Region.ready .any ops listed = [] → ∀ G w a, Ext G0 w0 G w → Inv G w (stB st0 base rs b) → RE N G w (envK N ops env0 rs b ops.size) a → Q .normal a w := by
    intro listed b hsz hlb hr G w a hX hI hE
    have hall := allDone listed b hsz hlb hr
    refine fin G w a hX (hI.le fun i o h => ?_) ⟨hE.size, hE.defers, fun t r h => hE.at_ t r ?_⟩
    · unfold stB at h ⊢
      split at h
      · rename_i hbi
        rw [if_pos hbi]
        dsimp only at h
        have hlt : i - base < ops.size := by
          cases hq : rs[i - base]? with
          | none => rw [hq] at h; cases h
          | some q => rw [← hrs]; exact (List.getElem?_eq_some_iff.1 hq).1
        rw [hall _ hlt]
        exact h
      · rename_i hbi
        rw [if_neg hbi]; exact h
    · rw [look_envK ops.size (b' := fun _ => true) (fun j hj _ => hall j hj)]
      exact h
  intro fuel
  induction fuel with
  | zero =>
    intro listed b hsz hlb hdc hfu G w a hX hI hfr hE
    have hr : Region.ready .any ops listed = [] := by
      rw [List.eq_nil_iff_forall_not_mem]
      intro i hi
      obtain ⟨h1, h2, _⟩ := edg_ready.1 hi
      have : i ∈ (List.range ops.size).filter fun i => !b i := List.mem_filter.2 ⟨List.mem_range.2 h1, by rw [← hlb i h1, h2]; rfl⟩
      rw [List.eq_nil_of_length_eq_zero (Nat.le_zero.1 hfu)] at this
      cases this
    exact ⟨hr, done listed b hsz hlb hr G w a hX hI hE⟩
  | succ fuel ih =>
    intro listed b hsz hlb hdc hfu G w a hX hI hfr hE
    refine ⟨fun hr => done listed b hsz hlb hr G w a hX hI hE, fun i hi => ?_⟩
    obtain ⟨hin, hli, hdeps⟩ := edg_ready.1 hi
    have hbi : b i = false := by rw [← hlb i hin]; exact hli
    have hdep : ∀ d ∈ edg ops i, b d = true := fun d hd => by
      have hdi := (ancOk_lt hanc hin).1 d hd
      have h1 := hdeps d hd
      rw [← hlb d (by omega)]
      have hds : d < listed.size := by omega
      rw [Array.getD_eq_getD_getElem?, Array.getElem?_eq_getElem hds] at h1 ⊢
      exact h1
    have hM : ∀ j ∈ M.getD i [], b j = true := anc_in hanc (b := fun j => b j = true) hdc i hin hdep
    obtain ⟨o, c, ho, hc, hfact⟩ := hf i hin
    obtain ⟨hdst, hlook⟩ := hpar i o ho
    -- the slots that the operation looks at
    have same : ∀ t ∈ o.looksAt ops, look (envK N ops env0 rs b ops.size) t = look (envK N ops env0 rs (fun _ => true) i) t := by
      intro t ht
      rw [← envK_le (b := fun j => decide (j < i)) (k := i) (n := ops.size) (by omega) (fun j h1 _ _ => decide_eq_false (by omega)) |>.trans (look_envK i (b' := fun _ => true) (fun j hj _ => decide_eq_true hj))]
      refine look_envK ops.size (fun j hj hjd => ?_)
      rcases hlook t ht j hjd with h | h
      · rw [hM j h, decide_eq_true ((ancOk_lt hanc hin).2 j h).1]
      · have hlt := ((ancOk_lt hanc hj).2 i h).1
        rw [decide_eq_false (by omega)]
        cases hbj : b j with
        | false => rfl
        | true =>
          have := anc_in hanc (b := fun j => b j = true) hdc j hj (hdc j hj hbj) i h
          rw [hbi] at this; cases this
    have sameEv : ∀ x ∈ o.op.operands, ev (envK N ops env0 rs (fun _ => true) i) x = ev (envK N ops env0 rs b ops.size) x := fun x hx => by
      cases x with
      | tmp t => exact (same t (looks_op hx)).symm
      | _ => rfl
    -- behind it
    have next : ∀ (G' : Gh) (w' : World) (a' : Act), Ext G0 w0 G' w' → Inv G' w' (stB st0 base rs (bUp b i)) → (∀ k, k < ops.size → bUp b i k = false → ¬ G'.U (base + k) ∧ G'.R (base + k)) → RE N G' w' (put N (envK N ops env0 rs b ops.size) o.dst c.r) a' → wpAnyIn (fen ρ) 7 P .any ops Q fuel (listed.setIfInBounds i true) a' w' := by
      intro G' w' a' hX' hI' hfr' hp
      refine ih _ (bUp b i) (by simp [hsz]) (fun k hk => ?_) (fun k hk hbk d hd => ?_) ?_ G' w' _ hX' hI' hfr' ?_
      · unfold bUp
        by_cases hki : k = i
        · subst hki
          have hks : k < listed.size := by omega
          simp [Array.getD_eq_getD_getElem?, hks]
        · rw [if_neg hki, ← hlb k hk]
          simp [Array.getD_eq_getD_getElem?, Array.getElem?_setIfInBounds_ne (Ne.symm hki)]
      · unfold bUp at hbk ⊢
        by_cases hki : k = i
        · subst hki
          by_cases hdk : d = k
          · rw [if_pos hdk]
          · rw [if_neg hdk]; exact hdep d hd
        · rw [if_neg hki] at hbk
          by_cases hdk : d = i
          · rw [if_pos hdk]
          · rw [if_neg hdk]; exact hdc k hk hbk d hd
      · have : ((List.range ops.size).filter fun j => !bUp b i j).length < ((List.range ops.size).filter fun j => !b j).length := by
          refine filter_lt (List.mem_range.2 hin) (by rw [hbi]; rfl) (by unfold bUp; rw [if_pos rfl]; rfl) (fun j hj => ?_)
          unfold bUp at hj
          split at hj
          · cases hj
          · exact hj
        omega
      · refine ⟨hp.size, hp.defers, fun t r ht => hp.at_ t r ?_⟩
        rw [← ht]
        by_cases hd : o.dst = some t
        · -- this operation's own slot
          have e1 : look (envK N ops env0 rs (bUp b i) ops.size) t = look (envK N ops env0 rs (bUp b i) (i + 1)) t := envK_le (by omega) (fun j h1 h2 hj => by have := hdst t hd j hj; omega)
          have e2 : envK N ops env0 rs (bUp b i) (i + 1) = put N (envK N ops env0 rs (bUp b i) i) o.dst c.r := by
            have hbb : bUp b i i = true := by unfold bUp; rw [if_pos rfl]
            conv => lhs; unfold envK
            rw [ho, hc]
            dsimp only
            rw [hbb]
          rw [e1, e2, hd, look_put_same, look_put_same]
          split
          · rfl
          · have e3 : look (envK N ops env0 rs b ops.size) t = look (envK N ops env0 rs b i) t := envK_le (by omega) (fun j h1 h2 hj => by have := hdst t hd j hj; subst this; exact hbi)
            rw [e3]
            exact look_envK i (fun j hj _ => by unfold bUp; rw [if_neg (by omega)])
        · rw [look_put hd]
          exact look_envK ops.size (fun j hj hjd => by
            unfold bUp
            rw [if_neg (fun e => by subst e; rw [ho] at hjd; exact hd hjd)])
    have stSame : c.al = none → stB st0 base rs (bUp b i) = stB st0 base rs b := by
      intro hcal
      funext k
      unfold stB
      split
      · by_cases hk : k - base = i
        · have e : (rs[k - base]?).bind (·.al) = none := by rw [hk, hc]; exact hcal
          rw [e]
          cases bUp b i (k - base) <;> cases b (k - base) <;> rfl
        · unfold bUp; rw [if_neg hk]
      · rfl
    have frSame : ∀ k, k < ops.size → bUp b i k = false → ¬ G.U (base + k) ∧ G.R (base + k) := fun k hk hb => hfr k hk (by
      unfold bUp at hb
      split at hb
      · cases hb
      · exact hb)
    unfold wpOpIn
    rw [ho]
    dsimp only
    rcases hfact with ⟨j, want, d, bb, hg, hd, hl, hne, hcc⟩ | ⟨hg, hrun⟩
    · -- skipped
      rw [← same d (looks_guard hg hd)] at hl
      obtain ⟨v, h3, h4⟩ := hE.at_ _ _ hl
      have hw : ¬ (Region.wanted o (yielded ops a.tmps) = true) := by
        rcases hne with ⟨b1, rfl, hne⟩ | ⟨l, rfl⟩
        · have hv : v = .bool b1 := by have := h4.cel; cases this; rfl
          subst hv
          have hy : yielded ops a.tmps j = some b1 := by simp [yielded, hd, h3]
          simp [Region.wanted, hg, hy, hne]
        · have hv : ∃ vs, v = .tuple vs := by cases h4; exact ⟨_, rfl⟩
          obtain ⟨vs, rfl⟩ := hv
          have hy : yielded ops a.tmps j = none := by simp [yielded, hd, h3]
          simp [Region.wanted, hg, hy]
      rw [if_neg hw]
      refine ⟨fun _ _ => trivial, next G w _ hX (by rw [stSame (by rw [hcc])]; exact hI) frSame (hE.put ?_ _)⟩
      rw [hcc]
      exact .t [] _ rfl (fun j x v h _ => by simp at h)
    · have hw : Region.wanted o (yielded ops a.tmps) = true := by
        rcases hg with hg | ⟨j, want, d, hg, hd, hl⟩
        · simp [Region.wanted, hg]
        · rw [← same d (looks_guard hg hd)] at hl
          obtain ⟨v, h3, h4⟩ := hE.at_ _ _ hl
          have hv : v = .bool want := by have := h4.cel; cases this; rfl
          subst hv
          have hy : yielded ops a.tmps j = some want := by simp [yielded, hd, h3]
          simp [Region.wanted, hg, hy]
      rw [if_pos hw]
      rcases hrun with ⟨ob, f, hal, hcc⟩ | ⟨hcal, hv⟩
      · obtain ⟨hI1, hx1⟩ := hole hI (fun j => j ≠ base + i)
        have hE1 := hE.exts hx1 rfl
        have hal' : alOb T (envK N ops env0 rs b ops.size) o.op = some (ob, f) := alOb_congr sameEv hal
        obtain ⟨v, w', sz, h1, h2, h3, h4⟩ := alOb_ok TP hal' hI1 hE1 (base + i) ⟨(hfr i hin hbi).1, fun h => h.2 rfl⟩
        refine wpV h1 ?_
        refine next _ w' _ ⟨hX.toExtS.trans (hx1.trans h2.toExtS), fun j hj => h2.R j ⟨hX.R j hj, fun e => hb0 j (by omega) hj⟩, fun j hj hu => hX.res j hj (h2.res j ⟨hX.R j hj, fun e => hb0 j (by omega) hj⟩ hu), ⟨h2.out.1.trans hX.out.1, h2.out.2.1.trans hX.out.2.1, h2.out.2.2.trans hX.out.2.2⟩, h2.B.trans hX.B⟩ ?_ (fun k hk hb => ?_) ((hE1.ext h2).put (by rw [hcc]; exact h4) _)
        · have e : upd (stB st0 base rs b) (base + i) ob = stB st0 base rs (bUp b i) := by
            funext k
            unfold upd stB
            by_cases hk : k = base + i
            · subst hk
              have hbb : bUp b i i = true := by unfold bUp; rw [if_pos rfl]
              rw [if_pos rfl, if_pos (by omega), show base + i - base = i by omega, hc, hbb]
              dsimp only
              rw [hcc]; rfl
            · rw [if_neg hk]
              split
              · have hbb : bUp b i (k - base) = b (k - base) := by unfold bUp; rw [if_neg (by omega)]
                rw [hbb]
              · rfl
          rw [← e]; exact h3
        · have hki : k ≠ i := fun e => by
            subst e
            unfold bUp at hb
            rw [if_pos rfl] at hb
            cases hb
          obtain ⟨k1, k2⟩ := frSame k hk hb
          refine ⟨fun hU => ?_, k2, by omega⟩
          rcases hU with hU | hU
          · exact k1 hU
          · omega
      · have hvb := hv (stB st0 base rs b) (stA_le h0 hM i)
        have hvb' := vop_congr sameEv hvb
        have hop := vop_ok TP (N := N) (o := o) (K := fun env' s => env' = put N (envK N ops env0 rs b ops.size) o.dst c.r ∧ s = stB st0 base rs b) (vop_mono (fun r s h => ⟨by rw [h.1], h.2⟩) hvb')
        refine Oper.wpIn_mono ?_ (hop ρ G w a hI hE Q)
        rintro a' w' ⟨G', env', st', ⟨rfl, rfl⟩, h2, h3, h4⟩
        refine next G' w' a' (hX.trans h2) (by rw [stSame hcal]; exact h3) (fun k hk hb => ?_) h4
        obtain ⟨k1, k2⟩ := frSame k hk hb
        exact ⟨fun hU => k1 (h2.res _ k2 hU), h2.R _ k2⟩
/-- a region that draws its order -/
theorem Pw.draw {ρ : Option Nat} (TP : TOk P T) (M : List (List Nat)) (hm : P.follows .mixedOrders = true) {id : Nat} (hok : drawOk ops M = true) {Q : Exit → Env → Sto → Prop} {env : Env} {st : Sto} (h : vdraw P T N ops M st (Q .normal) 0 ops.toList env []) : Pw (ρ := ρ) P N (.region id ops true) Q env st := ⟨fun G w a hI hE => by
  refine wpIn_region_any hm ?_
  have hI' : Inv G { w with drawn := w.drawn + 1 } st := Inv.heap (w := w) (w' := { w with drawn := w.drawn + 1 }) rfl hI
  have hX0 : Ext G w G { w with drawn := w.drawn + 1 } := Ext.heap (w := w) (w1 := w) (w' := { w with drawn := w.drawn + 1 }) rfl ⟨rfl, rfl, rfl⟩ (Ext.refl G w)
  have hE' := hE.ext hX0
  obtain ⟨base, hbase⟩ := hI'.new
  have h0 : ∀ i, base ≤ i → st i = none := fun i hi => hI'.unused (fun hu => absurd (hbase i (.inl hu)) (by omega))
  obtain ⟨rs, h1, h2, h3⟩ := plan (P := P) (T := T) (N := N) (ops := ops) (M := M) (base := base) (env0 := env) h0 ops.toList 0 [] rfl rfl (fun k hk => absurd hk (Nat.not_lt_zero k)) h
  -- names kept free
  have hG1 : Inv ⟨G.U, fun i => G.R i ∨ (base ≤ i ∧ i < base + ops.size), G.b, G.X, G.B⟩ { w with drawn := w.drawn + 1 } st ∧ Ext G { w with drawn := w.drawn + 1 } ⟨G.U, fun i => G.R i ∨ (base ≤ i ∧ i < base + ops.size), G.b, G.X, G.B⟩ { w with drawn := w.drawn + 1 } := by
    have hx : Ext G { w with drawn := w.drawn + 1 } ⟨G.U, fun i => G.R i ∨ (base ≤ i ∧ i < base + ops.size), G.b, G.X, G.B⟩ { w with drawn := w.drawn + 1 } :=
      ⟨⟨Nat.le_refl _, fun _ h => h, fun _ h => h, fun _ _ => rfl, fun _ _ => .inr rfl, fun _ _ _ _ _ cs e h => ⟨cs, h, rfl⟩⟩, fun _ h => .inl h, fun _ _ h => h, ⟨rfl, rfl, rfl⟩, rfl⟩
    refine ⟨⟨fun id o ho => ?_, hI'.lt, hI'.inj, hI'.X, ⟨base + ops.size, fun i hi => ?_⟩⟩, hx⟩
    · obtain ⟨g, sz, cs, e, a, b, c, d, f, k⟩ := hI'.obj id o ho
      exact ⟨g, sz, cs, e, a, b, c, d, f, fun j x v p q => (k j x v p q).ext hx⟩
    · rcases hi with hi | hi | hi
      · have := hbase i (.inl hi); omega
      · have := hbase i (.inr hi); omega
      · omega
  obtain ⟨hI1, hX1⟩ := hG1
  have key := draw_any (ρ := ρ) TP hok h1 h2 h0 (Q := fun e a' w' => ∃ G' env' st', Q e env' st' ∧ Ext G w G' w' ∧ Inv G' w' st' ∧ RE N G' w' env' a') (G0 := G) (w0 := { w with drawn := w.drawn + 1 }) (fun i hi hr => absurd (hbase i (.inr hr)) (by omega))
    (fun G' w' a' hx hi he => ⟨G', _, _, h3, hX0.trans hx, hi.le (stL_le h0 ops.size (fun _ _ => rfl)), he⟩)
    ops.size (Array.replicate ops.size false) (fun _ => false) (by simp) (fun i hi => by simp [Array.getD_eq_getD_getElem?, hi]) (fun i hi h => by cases h) (Nat.le_trans (List.length_filter_le _ _) (by simp))
    ⟨G.U, fun i => G.R i ∨ (base ≤ i ∧ i < base + ops.size), G.b, G.X, G.B⟩ { w with drawn := w.drawn + 1 } a hX1 (hI1.le fun i o ho => ?_) (fun k hk _ => ⟨fun hu => absurd (hbase _ (.inl hu)) (by omega), .inr ⟨by omega, by omega⟩⟩) ?_
  · exact key
  · unfold stB at ho
    split at ho
    · cases ho
    · exact ho
  · have e : ∀ k, envK N ops env rs (fun _ => false) k = env := by
      intro k
      induction k with
      | zero => rfl
      | succ k ih =>
        unfold envK
        cases ops[k]? with
        | none => exact ih
        | some o => cases rs[k]? <;> exact ih
    rw [e]
    exact hE'.ext hX1⟩
end Go.Proofs.YtbmgenifdlgbmaaGreat.D.Pm
namespace Go.Proofs.YtbmgenifdlgbmaaGreat.D.Pm
set_option linter.unusedVariables false
set_option linter.unusedSimpArgs false
open Go
abbrev Big : Nat := 4611686018427387903
/-- a function of its arguments alone -/
def Is (P : Program) (f : FuncId) (as : List AV) (r : AV) : Prop := ∀ st, Does P f as st fun r' s => r' = r ∧ s = st
variable {P : Program} {T : TT} {N : Nat} {ρ : Option Nat}
theorem Is.of (TP : TOk P T) {f : FuncId} {fn : Func} {c : Code} {as : List AV} {r : AV} (hf : P.funcs[f]? = some fn) (hb : fn.body = some c) (hn : (fn.name == "runtime.NumGoroutine") = false) (hN : as.length ≤ fn.ntmps)
    (h : ∀ st, Pw (ρ := none) P fn.ntmps c (retQ T fn.results.toList fun r' s => r' = r ∧ s = st) (params 0 as) st) : Is P f as r := fun st => Does.of TP hf hb hn hN (h st)
theorem Is.call {f : FuncId} {as : List AV} {r : AV} {st : Sto} {K : AV → Sto → Prop} (h : Is P f as r) (k : K r st) : Does P f as st K := (h st).mono fun r' s ⟨e1, e2⟩ => by subst e1 e2; exact k
theorem Is.callB {f : FuncId} {as : List AV} {x : Bool} {st : Sto} {K : AV → Sto → Prop} (h : Is P f as (vB x)) (k : ∀ b, x = b → K (vB b) st) : Does P f as st K := h.call (k x rfl)
theorem Is.callI {f : FuncId} {as : List AV} {i : IntKind} {x : Int} {st : Sto} {K : AV → Sto → Prop} (h : Is P f as (vI i x)) (k : ∀ b, x = b → K (vI i b) st) : Does P f as st K := h.call (k x rfl)
theorem Is.callS {f : FuncId} {as : List AV} {sz : Nat} {x : List (List AC)} {st : Sto} {K : AV → Sto → Prop} (h : Is P f as (.c (.sl sz x))) (k : ∀ b, x = b → K (.c (.sl sz b)) st) : Does P f as st K := h.call (k x rfl)
theorem Is.drawB {f : FuncId} {as : List AV} {x : Bool} {st : Sto} {F : AV → Prop} (h : Is P f as (vB x)) (k : ∀ b, x = b → F (vB b)) : ∃ r, (∀ st', Le st st' → Does P f as st' fun r' s => r' = r ∧ s = st') ∧ F r := ⟨_, fun st' _ => h st', k x rfl⟩
theorem Is.drawI {f : FuncId} {as : List AV} {i : IntKind} {x : Int} {st : Sto} {F : AV → Prop} (h : Is P f as (vI i x)) (k : ∀ b, x = b → F (vI i b)) : ∃ r, (∀ st', Le st st' → Does P f as st' fun r' s => r' = r ∧ s = st') ∧ F r := ⟨_, fun st' _ => h st', k x rfl⟩
theorem Is.draw {f : FuncId} {as : List AV} {x : AV} {st : Sto} {F : AV → Prop} (h : Is P f as x) (k : F x) : ∃ r, (∀ st', Le st st' → Does P f as st' fun r' s => r' = r ∧ s = st') ∧ F r := ⟨_, fun st' _ => h st', k⟩
theorem Is.eq {f : FuncId} {as : List AV} {r r' : AV} (h : Is P f as r) (e : r = r') : Is P f as r' := e ▸ h
/-! ### the end of a function -/
theorem Fin.same {st : Sto} {r r' : AV} {st0 : Sto} {Q : AV → Sto → Prop} (e : r = r') (h : Le st0 st) (k : Q r' st0) : Fin Q r st := ⟨fun _ => false, st0, r', e ▸ .refl _, fun id o ho => ⟨h id o ho, rfl⟩, k⟩
theorem Fin.pure {st : Sto} {r : AV} : Fin (fun r' s => r' = r ∧ s = st) r st := .same rfl (.refl _) ⟨rfl, rfl⟩
theorem Fin.pureE {st : Sto} {r r' : AV} (e : r = r') : Fin (fun r' s => r' = r ∧ s = st) r' st := .same e.symm (.refl _) ⟨rfl, rfl⟩
theorem Fin.old {st st0 : Sto} {r r' : AV} (e : r' = r) (h : Le st0 st) : Fin (fun r' s => r' = r ∧ s = st0) r' st := .same e h ⟨rfl, rfl⟩
theorem Le.up {st0 st : Sto} {id : Nat} {o : Ob} (h : Le st0 st) (hn : st id = none) : Le st0 (Pm.upd st id o) := h.trans (.upd hn)
theorem Le.up2 {st0 st : Sto} {id : Nat} {o : Ob} (h : Le st0 st) (hn : st0 id = none) : Le st0 (Pm.upd st id o) := fun i o' ho => by
  have : i ≠ id := fun e => by subst e; rw [hn] at ho; cases ho
  simp [Pm.upd, this, h i o' ho]
theorem Le.dl {st0 st : Sto} {id : Nat} (h : Le st0 st) (hn : st0 id = none) : Le st0 (Pm.del st id) := fun i o' ho => by
  have : i ≠ id := fun e => by subst e; rw [hn] at ho; cases ho
  simp [Pm.del, this, h i o' ho]
theorem Le.none {st0 st : Sto} {id : Nat} (h : Le st0 st) (hn : st id = none) : st0 id = none := by
  cases hs : st0 id with
  | none => rfl
  | some o => rw [h id o hs] at hn; cases hn
theorem upd_same (st : Sto) (id : Nat) (o : Ob) : upd st id o id = some o := by simp [upd]
theorem upd_ne {st : Sto} {id i : Nat} (o : Ob) (h : i ≠ id) : upd st id o i = st i := by simp [upd, h]
theorem fresh_ne {st : Sto} {id i : Nat} {o : Ob} (h : st id = none) (hi : st i = some o) : i ≠ id := fun e => by subst e; rw [h] at hi; cases hi
theorem upd_old {st : Sto} {id i : Nat} {o o' : Ob} (h : st id = none) (hi : st i = some o) : upd st id o' i = some o := by rw [upd_ne _ (fresh_ne h hi), hi]
/-! ### slots -/
def EVe (env : Env) : Env → Prop
  | [] => True
  | (t, r) :: l => look env t = some r ∧ EVe env l
def sub (env : Env) : List Nat → Env
  | [] => []
  | t :: l => match look env t with
    | some r => (t, r) :: sub env l
    | none => sub env l
theorem EVe.ev {env : Env} {st : Sto} : ∀ {l : Env}, EVe env l → EV (fun _ => false) st env l
  | [], _ => trivial
  | (t, r) :: l, ⟨h1, h2⟩ => ⟨⟨r, h1, .refl _⟩, h2.ev⟩
theorem EVe.app {env : Env} : ∀ {l m : Env}, EVe env l → EVe env m → EVe env (l ++ m)
  | [], m, _, h => h
  | (t, r) :: l, m, ⟨h1, h2⟩, h => ⟨h1, h2.app h⟩
theorem EVe.sub {env : Env} : ∀ (l : List Nat), EVe env (Pm.sub env l)
  | [] => trivial
  | t :: l => by
    unfold Pm.sub
    cases h : look env t with
    | none => exact EVe.sub l
    | some r => exact ⟨h, EVe.sub l⟩
theorem Vw.mk {env : Env} {st : Sto} {env' : Env} {st' : Sto} (h : EVe env env') (hs : Le st' st) : Vw env st env' st' := ⟨fun _ => false, h.ev, fun id o ho => ⟨hs id o ho, rfl⟩⟩
theorem wrap_id {n : Int} (h1 : -9223372036854775808 ≤ n) (h2 : n ≤ 9223372036854775807) : IntKind.i64.wrap n = n := by
  show (if (true && decide (n % 2 ^ 64 ≥ 2 ^ 63)) = true then n % 2 ^ 64 - 2 ^ 64 else n % 2 ^ 64) = n
  split
  · rename_i h3
    simp at h3
    omega
  · rename_i h3
    simp at h3
    omega
theorem wrap_nat {i n : Nat} (h : i ≤ n) (hn : n ≤ Big) : IntKind.i64.wrap ((i : Int) + 1) = ((i + 1 : Nat) : Int) := by
  have := hn; unfold Big at this; rw [wrap_id (by omega) (by omega)]; rfl
/-! ### loops that count -/
theorem Pw.rngS {τ : Type} (ti : Nat) (n : Nat) (hn : n ≤ Big) (keep : List Nat) (u : Nat → τ → Env) (s : Nat → τ → Sto) (I : Nat → τ → Prop) {c : Code} {Q : Exit → Env → Sto → Prop} {env : Env} {st : Sto} (x0 : τ)
    (h0 : look env ti = some (vI .i64 0)) (h1 : EVe env (u 0 x0)) (h2 : Le (s 0 x0) st) (h3 : I 0 x0)
    (round : ∀ i x, i ≤ n → I i x → Pw (ρ := ρ) P N c (fun ex env' st' => match ex with | .normal => i < n ∧ look env' ti = some (vI .i64 (IntKind.i64.wrap ((i : Int) + 1))) ∧ EVe env' (sub env keep) ∧ ∃ y, EVe env' (u (i + 1) y) ∧ Le (s (i + 1) y) st' ∧ I (i + 1) y | ex => Q ex env' st')
      ((ti, vI .i64 (i : Nat)) :: (u i x ++ sub env keep)) (s i x)) : Pw (ρ := ρ) P N (.loop c) Q env st := by
  refine Pw.loop (σ := Nat × τ) (fun p => (ti, vI .i64 (p.1 : Nat)) :: (u p.1 p.2 ++ sub env keep)) (fun p => s p.1 p.2) (fun p => p.1 ≤ n ∧ I p.1 p.2) (fun p => n - p.1) ?_ ?_
  · exact ⟨(0, x0), .mk ⟨h0, h1.app (.sub _)⟩ h2, Nat.zero_le _, h3⟩
  · rintro ⟨i, x⟩ ⟨hi, hx⟩
    refine Pw.mono (round i x hi hx) fun ex env' st' h => ?_
    cases ex with
    | normal =>
      obtain ⟨k1, k2, k3, y, k4, k5, k6⟩ := h
      rw [wrap_nat hi hn] at k2
      exact ⟨(i + 1, y), .mk ⟨k2, k4.app k3⟩ k5, ⟨k1, k6⟩, by show n - (i + 1) < n - i; omega⟩
    | _ => exact h
/-- .. and nothing in memory changes -/
theorem Pw.rng {τ : Type} (ti : Nat) (n : Nat) (hn : n ≤ Big) (keep : List Nat) (u : τ → Env) (I : Nat → τ → Prop) {c : Code} {Q : Exit → Env → Sto → Prop} {env : Env} {st : Sto} (x0 : τ)
    (h0 : look env ti = some (vI .i64 0)) (h1 : EVe env (u x0)) (h3 : I 0 x0)
    (round : ∀ i x, i ≤ n → I i x → Pw (ρ := ρ) P N c (fun ex env' st' => match ex with | .normal => i < n ∧ look env' ti = some (vI .i64 (IntKind.i64.wrap ((i : Int) + 1))) ∧ EVe env' (sub env keep) ∧ ∃ y, EVe env' (u y) ∧ Le st st' ∧ I (i + 1) y | ex => Q ex env' st')
      ((ti, vI .i64 (i : Nat)) :: (u x ++ sub env keep)) st) : Pw (ρ := ρ) P N (.loop c) Q env st :=
  Pw.rngS ti n hn keep (fun _ => u) (fun _ _ => st) I x0 h0 h1 (.refl _) h3 round
/-- loops of another kind -/
theorem Pw.lpS {σ : Type} (keep : List Nat) (u : σ → Env) (s : σ → Sto) (I : σ → Prop) (μ : σ → Nat) {c : Code} {Q : Exit → Env → Sto → Prop} {env : Env} {st : Sto} (x0 : σ) (h1 : EVe env (u x0)) (h2 : Le (s x0) st) (h3 : I x0)
    (round : ∀ x, I x → Pw (ρ := ρ) P N c (fun ex env' st' => match ex with | .normal => EVe env' (sub env keep) ∧ ∃ y, EVe env' (u y) ∧ Le (s y) st' ∧ I y ∧ μ y < μ x | ex => Q ex env' st') (u x ++ sub env keep) (s x)) : Pw (ρ := ρ) P N (.loop c) Q env st := by
  refine Pw.loop (fun x => u x ++ sub env keep) s I μ ⟨x0, .mk (h1.app (.sub _)) h2, h3⟩ fun x hx => Pw.mono (round x hx) fun ex env' st' h => ?_
  cases ex with
  | normal =>
    obtain ⟨k1, y, k2, k3, k4, k5⟩ := h
    exact ⟨y, .mk (k2.app k1) k3, k4, k5⟩
  | _ => exact h
theorem Pw.lp {σ : Type} (keep : List Nat) (u : σ → Env) (I : σ → Prop) (μ : σ → Nat) {c : Code} {Q : Exit → Env → Sto → Prop} {env : Env} {st : Sto} (x0 : σ) (h1 : EVe env (u x0)) (h3 : I x0)
    (round : ∀ x, I x → Pw (ρ := ρ) P N c (fun ex env' st' => match ex with | .normal => EVe env' (sub env keep) ∧ ∃ y, EVe env' (u y) ∧ Le st st' ∧ I y ∧ μ y < μ x | ex => Q ex env' st') (u x ++ sub env keep) st) : Pw (ρ := ρ) P N (.loop c) Q env st :=
  Pw.lpS keep u (fun _ => st) I μ x0 h1 (.refl _) h3 round
theorem Pw.drw (TP : TOk P T) (hm : P.follows .mixedOrders = true) {id : Nat} {ops : Array Oper} (hok : drawOk ops (mkA ops ops.size) = true) {Q : Exit → Env → Sto → Prop} {env : Env} {st : Sto}
    (h : vdraw P T N ops (mkA ops ops.size) st (Q .normal) 0 ops.toList env []) : Pw (ρ := ρ) P N (.region id ops true) Q env st := Pw.draw TP _ hm hok h
/-- a first piece of code, and what is known behind it -/
theorem Pw.cut {τ : Type} (keep : List Nat) (u : τ → Env) (s : τ → Sto) (I : τ → Prop) {x y : Code} {Q : Exit → Env → Sto → Prop} {env : Env} {st : Sto}
    (h : Pw (ρ := ρ) P N x (fun ex env' st' => match ex with | .normal => EVe env' (sub env keep) ∧ ∃ z, EVe env' (u z) ∧ Le (s z) st' ∧ I z | ex => Q ex env' st') env st)
    (k : ∀ z, I z → Pw (ρ := ρ) P N y Q (u z ++ sub env keep) (s z)) : Pw (ρ := ρ) P N (.seq x y) Q env st := by
  refine .seq (h.mono fun ex env' st' hh => ?_)
  cases ex with
  | normal =>
    obtain ⟨h1, z, h2, h3, h4⟩ := hh
    exact Pw.vw (.mk (h2.app h1) h3) (k z h4)
  | _ => exact hh
/-! ### lists that came in -/
theorem ixm {α : Type} {l : List α} {f : α → List AC} {j : Nat} {F : List AC → Prop} (h : j < l.length) (k : F (f l[j])) : 0 ≤ (j : Int) ∧ (j : Int) < ((l.map f).length : Nat) ∧ ∃ r, (l.map f)[(j : Int).toNat]? = some r ∧ F r :=
  ⟨by omega, by rw [List.length_map]; omega, f l[j], by simp [h], k⟩
theorem lt_map {α β : Type} {l : List α} {f : α → β} {j : Nat} (h : (j : Int) < ((l.map f).length : Nat)) : j < l.length := by rw [List.length_map] at h; omega
theorem nlt_map {α β : Type} {l : List α} {f : α → β} {j : Nat} (h : ¬ (j : Int) < ((l.map f).length : Nat)) (hj : j ≤ l.length) : j = l.length := by rw [List.length_map] at h; omega
/-- a call of which only so much is told -/
def Ist (P : Program) (f : FuncId) (xs : List AV) (F : AV → Prop) : Prop := ∀ st, Does P f xs st fun r s => F r ∧ s = st
theorem Ist.call {P : Program} {f : FuncId} {xs : List AV} {F : AV → Prop} {st : Sto} {K : AV → Sto → Prop} (h : Ist P f xs F) (k : ∀ r, F r → K r st) : Does P f xs st K := (h st).mono fun r' s ⟨e1, e2⟩ => by subst e2; exact k _ e1
theorem Ist.of {P : Program} {T : TT} (TP : TOk P T) {f : FuncId} {fn : Func} {c : Code} {xs : List AV} {F : AV → Prop} (hf : P.funcs[f]? = some fn) (hb : fn.body = some c) (hn : (fn.name == "runtime.NumGoroutine") = false) (hN : xs.length ≤ fn.ntmps)
    (h : ∀ st, Pw (ρ := none) P fn.ntmps c (retQ T fn.results.toList fun r' s => F r' ∧ s = st) (params 0 xs) st) : Ist P f xs F := fun st => Does.of TP hf hb hn hN (h st)
theorem Fin.st {st st0 : Sto} {r : AV} {F : AV → Prop} (e : F r) (h : Le st0 st) : Fin (fun r' s => F r' ∧ s = st0) r st := .same rfl h ⟨e, rfl⟩
/-! ### lists that grow -/
def Grow (st0 : Sto) (sz : Nat) (st : Sto) (a : AC) (rows : List (List AC)) : Prop :=
  Le st0 st ∧ ((a = .v (.slice none 0 0) ∧ rows = []) ∨ ∃ id, a = .arr id 0 rows.length ∧ st id = some (.ar sz rows) ∧ st0 id = none)
theorem Grow.nil {st0 : Sto} {sz : Nat} {st : Sto} (h : Le st0 st) : Grow st0 sz st (.v (.slice none 0 0)) [] := ⟨h, .inl ⟨rfl, rfl⟩⟩
theorem Grow.le {st0 st : Sto} {sz : Nat} {a : AC} {rows : List (List AC)} (h : Grow st0 sz st a rows) : Le st0 st := h.1
/-- what stays as it is, while the list of a grows -/
def Kept (a : AC) (st st' : Sto) : Prop := ∀ i o, st i = some o → (∀ n, a ≠ .arr i 0 n) → st' i = some o
theorem Grow.app {st0 st : Sto} {z : TI} {a : AC} {rows ys : List (List AC)} {K : AV → Sto → Prop} (hg : Grow st0 z.size st a rows) (h1 : rows.length + ys.length ≤ maxLen) (h2 : (rows.length + ys.length) * z.bytes ≤ 140737488355328)
    (k : ∀ a' st', Grow st0 z.size st' a' (rows ++ ys) → Kept a st st' → K (.c a') st') : App st z a ys K := by
  obtain ⟨hle, hg⟩ := hg
  rcases hg with ⟨rfl, rfl⟩ | ⟨id, rfl, hs, h0⟩
  · refine ⟨⟨by simpa using h1, by simpa using h2, fun he => ?_, fun hne id hid => ?_⟩⟩
    · subst he; exact k _ _ (.nil hle) (fun i o h _ => h)
    · exact k _ _ ⟨hle.up hid, .inr ⟨id, by simp, by rw [upd_same]; rfl, hle.none hid⟩⟩ (fun i o hi _ => upd_old hid hi)
  · refine ⟨⟨rfl, rows, hs, Nat.le_refl _, h1, h2, fun id' hid => ?_⟩⟩
    rw [List.take_length]
    have hn : id ≠ id' := fun e => by subst e; rw [hs] at hid; cases hid
    refine k _ _ ⟨(hle.dl h0).up (by simp [del, hn.symm, hid]), .inr ⟨id', by simp, upd_same _ _ _, hle.none hid⟩⟩ (fun i o hi hna => ?_)
    have hi1 : i ≠ id := fun e => by subst e; exact hna _ rfl
    have hi2 : i ≠ id' := fun e => by subst e; rw [hi] at hid; cases hid
    simp [upd, del, hi1, hi2, hi]
theorem Grow.kept {st0 st st' : Sto} {sz : Nat} {a b : AC} {rows : List (List AC)} (hg : Grow st0 sz st b rows) (hle : Le st0 st') (hk : Kept a st st') (hne : ∀ i n m, a = .arr i 0 n → b ≠ .arr i 0 m) : Grow st0 sz st' b rows := by
  refine ⟨hle, hg.2.imp id fun ⟨id, h1, h2, h3⟩ => ⟨id, h1, hk _ _ h2 (fun n e => hne id n _ e h1), h3⟩⟩
theorem Grow.up {st0 st : Sto} {sz : Nat} {b : AC} {rows : List (List AC)} (hg : Grow st0 sz st b rows) {id : Nat} {o : Ob} (h : st id = none) : Grow st0 sz (upd st id o) b rows :=
  ⟨hg.1.up h, hg.2.imp (fun h => h) fun ⟨i, h1, h2, h3⟩ => ⟨i, h1, upd_old h h2, h3⟩⟩
/-- .. as it is handed back -/
theorem Grow.fv {st0 st : Sto} {sz : Nat} {a : AC} {rows : List (List AC)} (hg : Grow st0 sz st a rows) (hr : ∀ r ∈ rows, r.length = sz) : ∃ D : Nat → Bool, (∀ D' : Nat → Bool, (∀ i, D i = true → D' i = true) → Fz D' st a (.sl sz rows)) ∧ ∀ i, D i = true → st0 i = none := by
  rcases hg.2 with ⟨rfl, rfl⟩ | ⟨id, rfl, hs, h0⟩
  · exact ⟨fun _ => false, fun D' _ => .nil sz, fun i h => by cases h⟩
  · refine ⟨only id, fun D' hD => Fz.arr id 0 rows.length sz rows rows (hD id (by simp [only])) hs (by omega) rfl (fun i r hi => hr r (List.mem_of_getElem? hi)) (fun i r r' j c c' q1 q2 q3 q4 => ?_), fun i h => ?_⟩
    · rw [Nat.zero_add] at q1
      rw [q1] at q2
      cases q2
      rw [q3] at q4
      cases q4
      exact .refl _
    · have : i = id := by simpa [only] using h
      rw [this]; exact h0
theorem Fin.grow {st0 st : Sto} {sz : Nat} {a : AC} {rows : List (List AC)} {Q : AV → Sto → Prop} (hg : Grow st0 sz st a rows) (hr : ∀ r ∈ rows, r.length = sz) (k : Q (.c (.sl sz rows)) st0) : Fin Q (.c a) st := by
  obtain ⟨D, h1, h2⟩ := hg.fv hr
  refine ⟨D, st0, _, .c _ _ (h1 D fun _ h => h), fun i o hi => ⟨hg.1 i o hi, ?_⟩, k⟩
  cases hd : D i with
  | false => rfl
  | true => rw [h2 i hd] at hi; cases hi
theorem Fin.grow2 {st0 st : Sto} {sz sz' : Nat} {a b : AC} {rows rows' : List (List AC)} {Q : AV → Sto → Prop} (hg : Grow st0 sz st a rows) (hg' : Grow st0 sz' st b rows') (hr : ∀ r ∈ rows, r.length = sz) (hr' : ∀ r ∈ rows', r.length = sz') (k : Q (.t [.c (.sl sz rows), .c (.sl sz' rows')]) st0) :
    Fin Q (.t [.c a, .c b]) st := by
  obtain ⟨D, h1, h2⟩ := hg.fv hr
  obtain ⟨D', h1', h2'⟩ := hg'.fv hr'
  refine ⟨fun i => D i || D' i, st0, _, .t _ _ (by simp) (fun j c c' q1 q2 => ?_), fun i o hi => ⟨hg.1 i o hi, ?_⟩, k⟩
  · match j, q1, q2 with
    | 0, q1, q2 => cases q1; cases q2; exact .c _ _ (h1 _ fun i h => by simp [h])
    | 1, q1, q2 => cases q1; cases q2; exact .c _ _ (h1' _ fun i h => by simp [h])
    | j + 2, q1, q2 => simp at q1
  · cases hd : D i with
    | true => rw [h2 i hd] at hi; cases hi
    | false =>
      cases hd' : D' i with
      | true => rw [h2' i hd'] at hi; cases hi
      | false => simp [hd, hd']
end Go.Proofs.YtbmgenifdlgbmaaGreat.D.Pm
