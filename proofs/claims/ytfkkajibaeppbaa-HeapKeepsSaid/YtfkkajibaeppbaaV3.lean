/- Words and contracts: a plain machine over the model, and what the functions that a law reaches come to, each for every input that its theorem names. -/
import Derived.Test.YtfkkajibaeppbaaV2
import Derived.RangeFuncIn
import Derived.RangeFuncRecord
namespace Go.Proofs.Ytfkkajibaeppbaa.D.Pm
set_option linter.unusedVariables false
set_option linter.unusedSimpArgs false
open Go
/-- no block of cells -/
def NoCells (w : World) (r : Nat) : Prop := ∀ (cs : Array Value) (e : TypeId) (f : Nat × Nat), w.heap[r]? ≠ some (Obj.cells cs e f)
/-- what stands beside the machine -/
structure Side (r : Nat) (σ : Type) where
  E : σ → Gh → World → Prop
  ext : ∀ {s G w G' w'}, E s G w → Ext G w G' w' → E s G' w'
  base : ∀ {s G w c}, E s G w → c ≤ w.heap.size → E s (Gh.base G c) w
  sc : ∀ {s G w w'}, E s G w → SC w w' → w'.heap[r]? = w.heap[r]? → w.heap.size = w'.heap.size → E s G w'
  no : ∀ {s G w}, E s G w → G.X r ∧ NoCells w r ∧ w.heap[r]? ≠ some (.deferred (some []))
/-- what time may do, and the block r turns -/
structure ExtM (r : Nat) (G : Gh) (w : World) (G' : Gh) (w' : World) : Prop where
  size : w.heap.size ≤ w'.heap.size
  U : ∀ id, G.U id → G'.U id
  X : ∀ k, G.X k → G'.X k
  kept : ∀ k, G.X k → k ≠ r → w'.heap[k]? = w.heap[k]?
  live : ∀ id, G.U id → G'.b id = none ∨ G'.b id = G.b id
  shape : ∀ id g sz, G.U id → G'.b id = some (g, sz) → ∀ cs e, w.heap[g]? = some (.cells cs e (0, 0)) → ∃ cs', w'.heap[g]? = some (.cells cs' e (0, 0)) ∧ cs'.size = cs.size
  R : ∀ id, G.R id → G'.R id
  res : ∀ id, G.R id → G'.U id → G.U id
  out : w'.os = w.os ∧ w'.tape = w.tape ∧ w'.output = w.output
  B : G'.B = G.B
theorem ExtM.of {r : Nat} {G G' : Gh} {w w' : World} (x : Ext G w G' w') : ExtM r G w G' w' :=
  ⟨x.size, x.U, x.X, fun k h _ => x.kept k h, x.live, x.shape, x.R, x.res, x.out, x.B⟩
theorem ExtM.refl (r : Nat) (G : Gh) (w : World) : ExtM r G w G w := .of (.refl _ _)
theorem ExtM.trans {r : Nat} {G G1 G2 : Gh} {w w1 w2 : World} (h : ExtM r G w G1 w1) (h' : ExtM r G1 w1 G2 w2) : ExtM r G w G2 w2 where
  size := Nat.le_trans h.size h'.size
  U := fun id hi => h'.U id (h.U id hi)
  X := fun k hk => h'.X k (h.X k hk)
  kept := fun k hk hr => (h'.kept k (h.X k hk) hr).trans (h.kept k hk hr)
  live := fun id hi => by
    rcases h'.live id (h.U id hi) with h1 | h1
    · exact .inl h1
    · rcases h.live id hi with h2 | h2
      · exact .inl (h1.trans h2)
      · exact .inr (h1.trans h2)
  shape := fun id g sz hi hb cs e hc => by
    have h1 : G1.b id = some (g, sz) := by
      rcases h'.live id (h.U id hi) with h1 | h1
      · rw [h1] at hb; cases hb
      · rw [← h1]; exact hb
    obtain ⟨cs1, hc1, hs1⟩ := h.shape id g sz hi h1 cs e hc
    obtain ⟨cs2, hc2, hs2⟩ := h'.shape id g sz (h.U id hi) hb cs1 e hc1
    exact ⟨cs2, hc2, hs2.trans hs1⟩
  R := fun id hi => h'.R id (h.R id hi)
  res := fun id hi hu => h.res id hi (h'.res id (h.R id hi) hu)
  out := ⟨h'.out.1.trans h.out.1, h'.out.2.1.trans h.out.2.1, h'.out.2.2.trans h.out.2.2⟩
  B := h'.B.trans h.B
theorem ExtM.cell {r : Nat} {G G' : Gh} {w w' : World} (x : ExtM r G w G' w') (hr : NoCells w r) {a : Addr} {v : Value} (hX : G.X a.block) (hc : w.cell? a = some v) : w'.cell? a = some v := by
  by_cases h : a.block = r
  · exfalso
    unfold World.cell? at hc
    rw [h] at hc
    cases hk : w.heap[r]? with
    | none => rw [hk] at hc; cases hc
    | some o =>
      rw [hk] at hc
      cases o with
      | cells cs e f => exact hr cs e f hk
      | _ => cases hc
  · rw [cell_block (x.kept _ hX h)]; exact hc
theorem RC.extM {r : Nat} {G G' : Gh} {w w' : World} (x : ExtM r G w G' w') (hr : NoCells w r) {c : AC} {v : Value} (h : RC G w c v) : RC G' w' c v := by
  induction h with
  | v x h => exact .v x h
  | sl sz xs A len cap vs hl hc hm hs g o ha hcell h ih =>
    refine .sl sz xs A len cap vs hl hc hm hs g o (fun hp => ⟨(ha hp).1, x.X _ (ha hp).2⟩) (fun i cs j c h1 h2 => ?_) ih
    have hi : i < xs.length := (List.getElem?_eq_some_iff.1 h1).1
    exact x.cell hr (a := adr g _) (ha (by omega)).2 (hcell i cs j c h1 h2)
  | arr id off len A cap hn hc hm h =>
    refine .arr id off len A cap (x.U _ hn) hc hm (fun g sz hb => ?_)
    rcases x.live id hn with h1 | h1
    · rw [h1] at hb; cases hb
    · obtain ⟨cs, e, h2, h3, h4⟩ := h g sz (h1 ▸ hb)
      obtain ⟨cs', h5, h6⟩ := x.shape id g sz hn hb cs e h2
      exact ⟨cs', e, h5, h3, h6 ▸ h4⟩
  | ptr id off A hn h =>
    refine .ptr id off A (x.U _ hn) (fun g sz hb => ?_)
    rcases x.live id hn with h1 | h1
    · rw [h1] at hb; cases hb
    · exact h g sz (h1 ▸ hb)
  | pe id i j A hn h =>
    refine .pe id i j A (x.U _ hn) (fun g sz hb => ?_)
    rcases x.live id hn with h1 | h1
    · rw [h1] at hb; cases hb
    · exact h g sz (h1 ▸ hb)
  | ep cs g o vs hX hcell h ih => exact .ep cs g o vs (x.X _ hX) (fun j c h1 => x.cell hr (a := adr g _) hX (hcell j c h1)) ih
  | fn f caps vs hl cv hc h ih => exact .fn f caps vs hl cv hc ih
  | yd l => exact .yd l
theorem RV.extM {r : Nat} {G G' : Gh} {w w' : World} (x : ExtM r G w G' w') (hr : NoCells w r) {c : AV} {v : Value} (h : RV G w c v) : RV G' w' c v := by
  induction h with
  | c y v h => exact .c y v (h.extM x hr)
  | g cs vs hl h => exact .g cs vs hl (fun j c v h1 h2 => (h j c v h1 h2).extM x hr)
  | t xs vs hl h ih => exact .t xs vs hl ih
theorem Marks.extM {r : Nat} {G G' : Gh} {w w' : World} (x : ExtM r G w G' w') (hr : w.heap[r]? ≠ some (.deferred (some []))) : ∀ {l : List Deferred}, Marks G w l → Marks G' w' l
  | [], h => by
    have h : G.B ≤ w.heap.size := h
    show G'.B ≤ w'.heap.size
    rw [x.B]; exact Nat.le_trans h x.size
  | d :: ds, ⟨⟨D, h1, h2, h3, h4, h5⟩, h⟩ => ⟨⟨D, h1, x.B ▸ h2, x.X _ h3, (x.kept _ h3 (fun e => hr (e ▸ h4))).trans h4, h5⟩, Marks.extM x hr h⟩
theorem RE.extM {r N : Nat} {G G' : Gh} {w w' : World} (x : ExtM r G w G' w') (hr : NoCells w r) (hd : w.heap[r]? ≠ some (.deferred (some []))) {env : Env} {a : Act} (h : RE N G w env a) : RE N G' w' env a :=
  ⟨h.size, h.defers.extM x hd, fun t u hl => let ⟨v, h1, h2⟩ := h.at_ t u hl; ⟨v, h1, h2.extM x hr⟩⟩
/-- code beside something -/
structure PwE {σ : Type} {r : Nat} (S : Side r σ) {ρ : Option Nat} (P : Program) (N : Nat) (c : Code) (Q : Exit → Env → Sto → σ → Prop) (env : Env) (st : Sto) (s : σ) : Prop where
  mk ::
  out : ∀ G w a, Inv G w st → RE N G w env a → S.E s G w → c.wpIn (fen ρ) 7 P (fun e a' w' => ∃ G' env' st' s', Q e env' st' s' ∧ ExtM r G w G' w' ∧ Inv G' w' st' ∧ RE N G' w' env' a' ∧ S.E s' G' w') a w
section
variable {σ : Type} {r : Nat} {S : Side r σ} {ρ : Option Nat} {P : Program} {T : TT} {N : Nat} {Q : Exit → Env → Sto → σ → Prop} {env : Env} {st : Sto} {s : σ}
theorem PwE.pw {c : Code} (h : Pw (ρ := ρ) P N c (fun e env st => Q e env st s) env st) : PwE S (ρ := ρ) P N c Q env st s :=
  ⟨fun G w a hI hE hM => wpIn_mono (h.out G w a hI hE) fun e a' w' ⟨G', env', st', h1, h2, h3, h4⟩ => ⟨G', env', st', s, h1, .of h2, h3, h4, S.ext hM h2⟩⟩
theorem PwE.seq {x y : Code} (h : PwE S (ρ := ρ) P N x (fun e env st s => match e with | .normal => PwE S (ρ := ρ) P N y Q env st s | e => Q e env st s) env st s) : PwE S (ρ := ρ) P N (.seq x y) Q env st s := ⟨fun G w a hI hE hM => by
  refine wpIn_seq (wpIn_mono (h.out G w a hI hE hM) fun e a' w' ⟨G', env', st', s', h1, h2, h3, h4, h5⟩ => ?_)
  cases e with
  | normal => exact wpIn_mono (h1.out G' w' a' h3 h4 h5) fun e a2 w2 ⟨G2, e2, s2, k2, b1, b2, b3⟩ => ⟨G2, e2, s2, k2, b1, h2.trans b2, b3⟩
  | _ => exact ⟨G', env', st', s', h1, h2, h3, h4, h5⟩⟩
theorem PwE.block {id : Nat} {x : Code} (h : PwE S (ρ := ρ) P N x (fun e env st s => match e with | .exit i => if i = id then Q .normal env st s else Q (.exit i) env st s | e => Q e env st s) env st s) : PwE S (ρ := ρ) P N (.block id x) Q env st s := ⟨fun G w a hI hE hM => by
  refine wpIn_block (wpIn_mono (h.out G w a hI hE hM) fun e a' w' ⟨G', env', st', s', h1, h2⟩ => ?_)
  cases e with
  | exit i =>
    dsimp only at h1
    unfold Exit.inBlock
    by_cases hi : i = id
    · simp only [hi, if_true] at h1 ⊢; exact ⟨G', env', st', s', h1, h2⟩
    · simp only [hi, if_false] at h1 ⊢; exact ⟨G', env', st', s', h1, h2⟩
  | _ => exact ⟨G', env', st', s', h1, h2⟩⟩
theorem PwE.vw {c : Code} {env' : Env} {st' : Sto} (hv : Vw env st env' st') (h : PwE S (ρ := ρ) P N c Q env' st' s) : PwE S (ρ := ρ) P N c Q env st s := by
  obtain ⟨D, h1, h2⟩ := hv
  refine ⟨fun G w a hI hE hM => ?_⟩
  have x := Ext.frz G D st w
  exact wpIn_mono (h.out _ w a (hI.frz D h2) (EV.ok hI hE h1) (S.ext hM x)) fun e a' w' ⟨G', e', s', k', b1, b2, b3⟩ => ⟨G', e', s', k', b1, (ExtM.of x).trans b2, b3⟩
theorem PwE.mono {c : Code} {Q' : Exit → Env → Sto → σ → Prop} (h : PwE S (ρ := ρ) P N c Q env st s) (hq : ∀ e env st s, Q e env st s → Q' e env st s) : PwE S (ρ := ρ) P N c Q' env st s :=
  ⟨fun G w a hI hE hM => wpIn_mono (h.out G w a hI hE hM) fun e a' w' ⟨G', env', st', k', h1, h2⟩ => ⟨G', env', st', k', hq _ _ _ _ h1, h2⟩⟩
theorem PwE.cond {c : Operand} {x y : Code} {b : Bool} (hc : ev env c = some (.c (.v (.bool b)))) (h : PwE S (ρ := ρ) P N (if b then x else y) Q env st s) : PwE S (ρ := ρ) P N (.cond c x y) Q env st s := ⟨fun G w a hI hE hM => by
  have := (ev_ok hE hc).cel
  have e1 : a.eval c = .bool b := by generalize a.eval c = u at this; cases this; rfl
  refine wpIn_cond e1 ?_
  have := h.out G w a hI hE hM
  cases b <;> exact this⟩
theorem PwE.loop {τ : Type} (e : τ → Env) (s0 : τ → Sto) (κ : τ → σ) (I : τ → Prop) (μ : τ → Nat) {c : Code} (h0 : ∃ x, Vw env st (e x) (s0 x) ∧ κ x = s ∧ I x)
    (round : ∀ x, I x → PwE S (ρ := ρ) P N c (fun ex env' st' s' => match ex with | .normal => ∃ y, Vw env' st' (e y) (s0 y) ∧ κ y = s' ∧ I y ∧ μ y < μ x | ex => Q ex env' st' s') (e x) (s0 x) (κ x)) : PwE S (ρ := ρ) P N (.loop c) Q env st s := by
  obtain ⟨x, hv, rfl, hx⟩ := h0
  refine .vw hv ⟨fun G w a hI hE hM => ?_⟩
  have key : ∀ (n : Nat) (x : τ) (G1 : Gh) (w1 : World) (a1 : Act), μ x < n → I x → ExtM r G w G1 w1 → Inv G1 w1 (s0 x) → RE N G1 w1 (e x) a1 → S.E (κ x) G1 w1 →
      Code.roundsIn (fen ρ) 7 P c (fun e a' w' => ∃ G' env' st' s', Q e env' st' s' ∧ ExtM r G w G' w' ∧ Inv G' w' st' ∧ RE N G' w' env' a' ∧ S.E s' G' w') n a1 w1 := by
    intro n
    induction n with
    | zero => intro x G1 w1 a1 h; exact absurd h (Nat.not_lt_zero _)
    | succ n ih =>
      intro x G1 w1 a1 hm hx hX hI hE hM
      rw [roundsIn_succ]
      refine wpIn_mono ((round x hx).out G1 w1 a1 hI hE hM) fun ex a2 w2 ⟨G2, e2, s2, k2, h1, h2, h3, h4, h5⟩ => ?_
      cases ex with
      | normal =>
        obtain ⟨y, ⟨D, hv1, hv2⟩, rfl, hy, hlt⟩ := h1
        exact ih y _ w2 a2 (by omega) hy ((hX.trans h2).trans (.of (Ext.frz G2 D s2 w2))) (h3.frz D hv2) (EV.ok h3 h4 hv1) (S.ext h5 (Ext.frz G2 D s2 w2))
      | _ => exact ⟨G2, e2, s2, k2, h1, hX.trans h2, h3, h4, h5⟩
  exact wpIn_loop_rounds (μ x + 1) (key _ x G w a (Nat.lt_succ_self _) hx (.refl _ _ _) hI hE hM)
/-- an operation beside something -/
def OpOkE {r : Nat} (S : Side r σ) (ρ : Option Nat) (P : Program) (N : Nat) (o : Oper) (env : Env) (st : Sto) (s : σ) (K : Env → Sto → σ → Prop) : Prop :=
  ∀ G w a, Inv G w st → RE N G w env a → S.E s G w → ∀ Q, o.wpIn (fen ρ) 7 P a w (fun a' w' => ∃ G' env' st' s', K env' st' s' ∧ ExtM r G w G' w' ∧ Inv G' w' st' ∧ RE N G' w' env' a' ∧ S.E s' G' w') Q
def vopsE (P : Program) (T : TT) (N : Nat) (sp : Oper → Env → Sto → σ → (Env → Sto → σ → Prop) → Prop) (ops : Array Oper) : List Oper → Env → Sto → σ → (Env → Sto → σ → Prop) → Prop
  | [], env, st, s, Q => Q env st s
  | o :: l, env, st, s, Q => (o.guard = none ∧ sp o env st s fun env st s => vopsE P T N sp ops l env st s Q) ∨ vgo P T N [] ops o env st fun env st => vopsE P T N sp ops l env st s Q
theorem vgo_ok (TP : TOk P T) {S : List Nat} {ops : Array Oper} {o : Oper} {K : Env → Sto → Prop} (h : vgo P T N S ops o env st K) {G : Gh} {w : World} {a : Act} (hI : Inv G w st) (hE : RE N G w env a) {k : Nat} (hko : ops[k]? = some o) {Q : Exit → Act → World → Prop} :
    wpOpIn (fen ρ) 7 P ops Q k (fun a' w' => ∃ G' env' st', K env' st' ∧ Ext G w G' w' ∧ Inv G' w' st' ∧ RE N G' w' env' a') a w := by
  unfold wpOpIn
  rw [hko]
  dsimp only
  unfold vgo at h
  have put0 : RE N G w (put N env o.dst (.t [])) (a.put o.dst undef) := hE.put (.t [] _ rfl (fun j x v h _ => by simp at h)) _
  cases hg : o.guard with
  | none =>
    rw [hg] at h
    have hw : Region.wanted o (yielded ops a.tmps) = true := by simp [Region.wanted, hg]
    rw [if_pos hw]
    exact vopF_ok TP h ρ G w a hI hE _
  | some jw =>
    obtain ⟨j, want⟩ := jw
    rw [hg] at h
    dsimp only at h
    obtain ⟨d, h1, h⟩ := onO_iff.1 h
    obtain ⟨r, h2, h⟩ := onO_iff.1 h
    obtain ⟨v, h3, h4⟩ := hE.at_ _ _ h2
    rcases onG_ok h with ⟨⟨l, rfl⟩, hA⟩ | ⟨b, rfl, hh⟩
    · have hv : ∃ vs, v = .tuple vs := by cases h4; exact ⟨_, rfl⟩
      obtain ⟨vs, rfl⟩ := hv
      have hy : yielded ops a.tmps j = none := by simp [yielded, h1, h3]
      have hw : ¬ (Region.wanted o (yielded ops a.tmps) = true) := by simp [Region.wanted, hg, hy]
      rw [if_neg hw]
      exact ⟨fun _ _ => trivial, G, _, _, hA, Ext.refl _ _, hI, put0⟩
    clear h
    have hv : v = .bool b := by have := h4.cel; cases this; rfl
    subst hv
    have hy : yielded ops a.tmps j = some b := by simp [yielded, h1, h3]
    have hw : Region.wanted o (yielded ops a.tmps) = (b == want) := by simp [Region.wanted, hg, hy]
    rw [hw]
    by_cases hb : b = want
    · rw [if_pos hb] at hh
      rw [if_pos (by simp [hb])]
      exact vopF_ok TP hh ρ G w a hI hE _
    · rw [if_neg hb] at hh
      rw [if_neg (by simp [hb])]
      exact ⟨fun _ _ => trivial, G, _, _, hh, Ext.refl _ _, hI, put0⟩
theorem vopsE_ok (TP : TOk P T) {sp : Oper → Env → Sto → σ → (Env → Sto → σ → Prop) → Prop} (hsp : ∀ o env st s K, sp o env st s K → OpOkE S ρ P N o env st s K) {ops : Array Oper} {Q : Env → Sto → σ → Prop} {G0 : Gh} {w0 : World} :
    ∀ (l : List Oper) (k : Nat), ops.toList.drop k = l → ∀ {env : Env} {st : Sto} {s : σ}, vopsE P T N sp ops l env st s Q → ∀ G w a, ExtM r G0 w0 G w → Inv G w st → RE N G w env a → S.E s G w →
    wpOpsIn (fen ρ) 7 P ops (fun e a' w' => ∃ G' env' st' s', e = .normal ∧ Q env' st' s' ∧ ExtM r G0 w0 G' w' ∧ Inv G' w' st' ∧ RE N G' w' env' a' ∧ S.E s' G' w') (List.range' k l.length) a w
  | [], k, hk, env, st, s, h, G, w, a, hX, hI, hE, hM => ⟨G, env, st, s, rfl, h, hX, hI, hE, hM⟩
  | o :: l, k, hk, env, st, s, h, G, w, a, hX, hI, hE, hM => by
    have hko : ops[k]? = some o := by
      have := congrArg (·[0]?) hk
      simpa [List.getElem?_drop] using this
    have hk' : ops.toList.drop (k + 1) = l := by rw [← List.drop_drop, hk]; rfl
    rw [List.length_cons, List.range'_succ, wpOpsIn_cons]
    rcases h with ⟨hg, h⟩ | h
    · unfold wpOpIn
      rw [hko]
      dsimp only
      have hw : Region.wanted o (yielded ops a.tmps) = true := by simp [Region.wanted, hg]
      rw [if_pos hw]
      refine Oper.wpIn_mono ?_ (hsp _ _ _ _ _ h G w a hI hE hM _)
      rintro a' w' ⟨G', env', st', s', h1, h2, h3, h4, h5⟩
      exact vopsE_ok TP hsp l (k + 1) hk' h1 G' w' a' (hX.trans h2) h3 h4 h5
    · refine wpOpIn_q (fun _ _ _ h => h) ?_ (vgo_ok TP h hI hE hko)
      rintro a' w' ⟨G', env', st', h1, h2, h3, h4⟩
      exact vopsE_ok TP hsp l (k + 1) hk' h1 G' w' a' (hX.trans (.of h2)) h3 h4 (S.ext hM h2)
theorem PwE.region (TP : TOk P T) {sp : Oper → Env → Sto → σ → (Env → Sto → σ → Prop) → Prop} (hsp : ∀ o env st s K, sp o env st s K → OpOkE S ρ P N o env st s K) {id : Nat} {ops : Array Oper} (h : vopsE P T N sp ops ops.toList env st s (Q .normal)) : PwE S (ρ := ρ) P N (.region id ops false) Q env st s := ⟨fun G w a hI hE hM => by
  refine wpIn_region (?_ : wpOpsIn (fen ρ) 7 P ops _ (List.range ops.size) a w)
  have := vopsE_ok TP hsp (G0 := G) (w0 := w) ops.toList 0 rfl h G w a (.refl _ _ _) hI hE hM
  have e : List.range ops.size = List.range' 0 ops.toList.length := by rw [List.range_eq_range', Array.length_toList]
  rw [e]
  exact wpOpsIn_q (fun e a w ⟨G', env', st', s', he, h1⟩ => ⟨G', env', st', s', he ▸ h1⟩) _ _ _ this⟩
end
end Go.Proofs.Ytfkkajibaeppbaa.D.Pm
namespace Go.Proofs.Ytfkkajibaeppbaa.D.Pm
set_option linter.unusedVariables false
set_option linter.unusedSimpArgs false
open Go
variable {P : Program} {T : TT} {N : Nat}
theorem wpIn_fen {ρ : Option Nat} {n m : Nat} {c : Code} {Q : Exit → Act → World → Prop} {a : Act} {w : World} (h : c.wpIn (fen ρ) n P Q a w) : c.wpIn (fen ρ) m P Q a w := fun b k cs hro hb _ => h b k cs hro hb (room_fen _)
theorem inRound_fen {ρ : Option Nat} (l : Nat) : (fen ρ).inRound l = fen (some l) := rfl
/-- a call of yield: what Y says of it -/
structure YieldOk {σ : Type} {l : Nat} (S : Side l σ) (P : Program) (Y : σ → Sto → List AV → (Bool → σ → Sto → Prop) → Prop) : Prop where
  mk ::
  mono : ∀ {s st xs} {K K' : Bool → σ → Sto → Prop}, (∀ b s' st', K b s' st' → K' b s' st') → Y s st xs K → Y s st xs K'
  out : ∀ s st xs K, Y s st xs K → ∀ G w (vs : Array Value), Inv G w st → RVs G w xs vs → S.E s G w →
    ∃ f tmps assign body, (Instr.yield l vs).run P w = .ok (.round l f tmps assign body) w ∧
      RoundIn (fen none) 6 P l f tmps assign body w fun e w' => ∃ b G' s' st', e = .returned (.bool b) ∧ K b s' st' ∧ ExtM l G w G' w' ∧ Inv G' w' st' ∧ S.E s' G' w'
/-- the operation that calls yield -/
def spY {σ : Type} (l N : Nat) (Y : σ → Sto → List AV → (Bool → σ → Sto → Prop) → Prop) (o : Oper) (env : Env) (st : Sto) (s : σ) (K : Env → Sto → σ → Prop) : Prop :=
  ∃ y xs ats rs, o.op = .call { callee := .value y, args := xs, argTypes := ats } ∧ ev env y = some (.c (.yd l)) ∧ evs env xs.toList = some rs ∧ Y s st rs fun b s' st' => K (put N env o.dst (vB b)) st' s'
theorem spY_ok {σ : Type} {l : Nat} {S : Side l σ} {Y : σ → Sto → List AV → (Bool → σ → Sto → Prop) → Prop} (hY : YieldOk S P Y) : ∀ o env st s K, spY l N Y o env st s K → OpOkE S none P N o env st s K := by
  rintro o env st s K ⟨y, xs, ats, rs, ho, hy, hxs, h⟩ G w a hI hE hM Q
  have has := evs_ok hE hxs
  obtain ⟨f, tmps, assign, body, h1, h2⟩ := hY.out s st rs _ h G w (xs.map a.eval) hI (by simpa using has) hM
  have e1 : a.eval y = .func (.yield l) #[] #[] := by
    have := (ev_ok hE hy).cel
    generalize a.eval y = u at this
    cases this; rfl
  have hrun : (execOp a.eval o).run P w = .ok (.round l f tmps assign body) w := by
    obtain ⟨dst, op, ty, pos, after, guard⟩ := o
    dsimp only at ho
    subst ho
    simp [execOp, resolve, e1, Deferred.ofValue, invoke, h1]
  refine ⟨fun _ _ => trivial, ?_⟩
  rw [sem_fen hrun (fun d e => by cases e), Oper.uponIn_round]
  refine ⟨fun h => (by cases h), h2.mono ?_⟩
  rintro e w' ⟨b, G', s', st', rfl, k1, k2, k3, k4⟩
  obtain ⟨q1, q2, q3⟩ := S.no hM
  exact ⟨G', _, st', s', k1, k2, k3, (hE.extM k2 q2 q3).put (RV.one _ rfl) _, k4⟩
/-- a function that gives its values to yield -/
structure DoesE {σ : Type} {l : Nat} (S : Side l σ) (P : Program) (f : FuncId) (as : List AV) (st : Sto) (s : σ) (K : Sto → σ → Prop) : Prop where
  mk ::
  fn : ∃ fn c, P.funcs[f]? = some fn ∧ fn.body = some c ∧ (fn.name == "runtime.NumGoroutine") = false
  out : ∀ G w vs, Inv G w st → RVs G w as vs → S.E s G w → G.B ≤ w.heap.size → Calls P f vs w fun e w' => ∃ G' st' s' v, K st' s' ∧ e = .returned v ∧ ExtM l G w G' w' ∧ Inv G' w' st' ∧ S.E s' G' w'
theorem DoesE.of (TP : TOk P T) {σ : Type} {l : Nat} {S : Side l σ} {f : FuncId} {fn : Func} {c : Code} {as : List AV} {st : Sto} {s : σ} {K : Sto → σ → Prop} (hf : P.funcs[f]? = some fn) (hb : fn.body = some c) (hn : (fn.name == "runtime.NumGoroutine") = false) (hr : fn.results = #[]) (hN : as.length ≤ fn.ntmps)
    (h : PwE S (ρ := none) P fn.ntmps c (fun e env st s => match e with | .normal => K st s | .ret => K st s | _ => False) (params 0 as) st s) : DoesE S P f as st s K := by
  refine ⟨⟨fn, c, hf, hb, hn⟩, fun G w vs hI hv hM hB => callsIn_fen.1 (callsIn_of_wp_marks (F := fen none) (n := 7) hf hb trivial ?_)⟩
  have hE : RE fn.ntmps (G.base w.heap.size) w (params 0 as) { tmps := vs ++ Array.replicate (fn.ntmps - vs.size) undef, defers := [] } := by
    refine ⟨by simp [hv.1]; omega, Nat.le_refl _, params_ok as 0 _ fun j r hj => ?_⟩
    have hlt : j < vs.size := by rw [hv.1]; exact (List.getElem?_eq_some_iff.1 hj).1
    refine ⟨vs[j], ?_, (hv.2 j r _ hj (Array.getElem?_eq_getElem hlt)).exts (base_exts G w _)⟩
    rw [Nat.zero_add, Array.getElem?_append_left hlt, Array.getElem?_eq_getElem hlt]
  obtain ⟨q1, q2, q3⟩ := S.no hM
  have hll := hI.X _ q1
  refine wpIn_mono (h.out _ w _ (hI.base _) hE (S.base hM (Nat.le_refl _))) fun e a' w' ⟨G', env', st', s', h1, h2, h3, h4, h5⟩ => ?_
  have fin : K st' s' → LeavesInM (fen none) 7 P fn a'.tmps (fun e w' => ∃ G' st' s' v, K st' s' ∧ e = .returned v ∧ ExtM l G w G' w' ∧ Inv G' w' st' ∧ S.E s' G' w') a'.defers .returning w' := by
    intro hK
    refine leaves_marks h4.defers fun w2 ⟨k1, k2, k3, k4⟩ => ?_
    have i3 := h3.sc k3 (Nat.le_of_eq k1.symm)
    have hge : ∀ d ∈ a'.defers, ∀ k, d.target = .collected k → w.heap.size ≤ k := fun d hd k hk => by
      have := h4.defers.ge d hd k hk
      rw [h2.B] at this
      exact this
    have hl2 : w2.heap[l]? = w'.heap[l]? := k4 l (fun d hd ht => by have := hge d hd l ht; omega)
    have hre : (results fn a'.tmps).run P w2 = .ok (.tuple #[]) w2 := by
      have := results_eq (P := P) (fn := fn) (tmps := a'.tmps) (w := w2) (vs := []) (by rw [hr]; rfl)
      simpa using this
    have hx : ExtM l G w (G'.base G.B) w2 := by
      refine ⟨by rw [k1]; exact h2.size, fun i hi => h2.U i hi, fun k hk => h2.X k hk, fun k hk hne => ?_, fun i hi => h2.live i hi, fun i g sz hi hb2 cs e hc => ?_, fun i hi => h2.R i hi, fun i hi hu => h2.res i hi hu, ⟨k2.1.trans h2.out.1, k2.2.1.trans h2.out.2.1, k2.2.2.trans h2.out.2.2⟩, rfl⟩
      · have hlt := hI.X k hk
        rw [k4 k (fun d hd ht => by have := hge d hd k ht; omega)]
        exact h2.kept k hk hne
      · obtain ⟨cs', q1, q2⟩ := h2.shape i g sz hi hb2 cs e hc
        exact ⟨cs', k3 _ _ _ _ q1, q2⟩
    exact ⟨_, hre, _, st', s', _, hK, rfl, hx, i3.base _, S.base (S.sc h5 k3 hl2 k1.symm) (Nat.le_trans hB hx.size)⟩
  cases e with
  | normal => exact fin h1
  | ret => exact fin h1
  | _ => exact h1.elim
/-- what goes to yield, one after another, up to the first time that yield says no -/
def runY {σ : Type} (Y : σ → Sto → List AV → (Bool → σ → Sto → Prop) → Prop) : List (List AV) → σ → Sto → (Sto → σ → Prop) → Prop
  | [], s, st, K => K st s
  | x :: xs, s, st, K => Y s st x fun b s' st' => if b = true then runY Y xs s' st' K else K st' s'
/-- an iterator: its values -/
def Iter (P : Program) (f : FuncId) (caps : List AC) (items : List (List AV)) : Prop :=
  ∀ {σ : Type} {l : Nat} {S : Side l σ} {Y : σ → Sto → List AV → (Bool → σ → Sto → Prop) → Prop}, YieldOk S P Y → ∀ {s st} {K : Sto → σ → Prop}, runY Y items s st K → DoesE S P f (.c (.yd l) :: caps.map .c) st s K
/-! ### the loop -/
def putps (N : Nat) : List Tmp → List AV → Env → Env
  | p :: ps, x :: xs, env => putps N ps xs (put N env (some p) x)
  | _, _, env => env
theorem putps_ok {G : Gh} {w : World} : ∀ (ps : List Tmp) (xs : List AV) (vs : List Value) (env : Env) (tmps : Array Value), xs.length = vs.length → (∀ (j : Nat) r v, xs[j]? = some r → vs[j]? = some v → RV G w r v) → RE N G w env { tmps := tmps, defers := [] } →
    RE N G w (putps N ps xs env) { tmps := (ps.zip vs).foldl (fun t (p, v) => t.setIfInBounds p v) tmps, defers := [] }
  | [], xs, vs, env, tmps, hl, h, hE => by cases xs <;> exact hE
  | p :: ps, [], [], env, tmps, hl, h, hE => hE
  | p :: ps, x :: xs, v :: vs, env, tmps, hl, h, hE => by
    have := hE.put (h 0 x v rfl rfl) (some p)
    exact putps_ok ps xs vs _ _ (by simpa using hl) (fun j r v h1 h2 => h (j + 1) r v h1 h2) this
def jumpQ (Q : Exit → Env → Sto → Prop) (env : Env) (st : Sto) : Option Code → Prop
  | none => Q .normal env st
  | some .ret => Q .ret env st
  | some (.exit i) => Q (.exit i) env st
  | some (.goto t) => Q (.goto t) env st
  | _ => False
/-- the rounds of a loop -/
def rounds (P : Program) (N l : Nat) (ps : List Tmp) (assign body : Code) (Q : Exit → Env → Sto → Prop) (env : Env) : List (List AV) → Sto → Prop
  | [], st => Q .normal env st
  | x :: xs, st => x.length = ps.length ∧ Pw (ρ := some l) P N assign (fun e env1 st1 => e = .normal ∧ Pw (ρ := some l) P N body (fun e _ st' => match e with
      | .normal => rounds P N l ps assign body Q env xs st'
      | .ret => Q .ret env st'
      | .exit i => Q (.exit i) env st'
      | .goto t => Q (.goto t) env st'
      | _ => False) env1 st1) (putps N ps x env) st
/-- what the loop says of yield -/
def Yo (P : Program) (N l : Nat) (ps : List Tmp) (assign body : Code) (env : Env) (s : Option Code) (st : Sto) (x : List AV) (K : Bool → Option Code → Sto → Prop) : Prop :=
  s = none ∧ x.length = ps.length ∧ Pw (ρ := some l) P N assign (fun e env1 st1 => e = .normal ∧ Pw (ρ := some l) P N body (fun e _ st' => match e with
      | .normal => K true none st'
      | .ret => K false (some .ret) st'
      | .exit i => K false (some (.exit i)) st'
      | .goto t => K false (some (.goto t)) st'
      | _ => False) env1 st1) (putps N ps x env) st
theorem rounds_run {l : Nat} {ps : List Tmp} {assign body : Code} {Q : Exit → Env → Sto → Prop} {env : Env} : ∀ {items : List (List AV)} {st : Sto}, rounds P N l ps assign body Q env items st → runY (Yo P N l ps assign body env) items none st (fun st s => jumpQ Q env st s)
  | [], st, h => h
  | x :: xs, st, ⟨h1, h2⟩ => ⟨rfl, h1, h2.mono fun e env1 st1 ⟨he, h3⟩ => ⟨he, h3.mono fun e env2 st2 h4 => by
      cases e with
      | normal => show if true = true then _ else _; rw [if_pos rfl]; exact rounds_run h4
      | ret => show if false = true then _ else _; rw [if_neg (by simp)]; exact h4
      | exit i => show if false = true then _ else _; rw [if_neg (by simp)]; exact h4
      | goto t => show if false = true then _ else _; rw [if_neg (by simp)]; exact h4
      | _ => exact h4⟩⟩
/-- the loop's record, beside the iterator -/
def lside (N l : Nat) (env : Env) (tmps : Array Value) (rec : LoopState → Option Code → Loop) : Side l (Option Code) where
  E := fun s G w => G.X l ∧ w.heap[l]? = some (.loop (rec (if s.isNone then .ready else .done) s)) ∧ RE N G w env { tmps := tmps, defers := [] }
  ext := fun ⟨h1, h2, h3⟩ x => ⟨x.X _ h1, (x.kept _ h1).trans h2, h3.ext x⟩
  base := fun {s G w c} ⟨h1, h2, h3⟩ hc => ⟨h1, h2, ⟨h3.size, hc, fun t r hl => let ⟨v, a, b⟩ := h3.at_ t r hl; ⟨v, a, b.exts (base_exts G w c)⟩⟩⟩
  sc := fun {s G w w'} ⟨h1, h2, h3⟩ x hl hs => ⟨h1, hl.trans h2, ⟨h3.size, Nat.le_trans h3.defers.B (Nat.le_of_eq hs), fun t r hl => let ⟨v, a, b⟩ := h3.at_ t r hl; ⟨v, a, b.sc x⟩⟩⟩
  no := fun {s G w} h => ⟨h.1, (fun cs e f hc => by rw [h.2.1] at hc; cases hc), (fun hc => by rw [h.2.1] at hc; cases hc)⟩
theorem putObj_sc {w : World} {l : Nat} {o o' : Obj} (h : w.heap[l]? = some o) (hn : ∀ (cs : Array Value) (e : TypeId) (f : Nat × Nat), o ≠ .cells cs e f) : SC w (w.putObj l o') := fun k cs e f hk => by
  rw [World.putObj_heap_other (fun e => by subst e; rw [h] at hk; cases hk; exact hn _ _ _ rfl)]; exact hk
theorem putObj_extM {G : Gh} {w : World} {l : Nat} {o o' : Obj} (h : w.heap[l]? = some o) (hn : ∀ (cs : Array Value) (e : TypeId) (f : Nat × Nat), o ≠ .cells cs e f) : ExtM l G w G (w.putObj l o') :=
  ⟨Nat.le_of_eq (World.putObj_size).symm, fun _ h => h, fun _ h => h, fun k hk hne => World.putObj_heap_other hne, fun _ _ => .inr rfl, fun _ _ _ _ _ cs e hc => ⟨cs, putObj_sc h hn _ _ _ _ hc, rfl⟩, fun _ h => h, fun _ _ h => h, ⟨rfl, rfl, rfl⟩, rfl⟩
theorem lside_ok {l : Nat} {env : Env} {tmps : Array Value} {fn : FuncId} {ps : Array Tmp} {assign body : Code} {D : Nat} :
    YieldOk (lside N l env tmps (fun st pe => { state := st, pending := pe, fn, tmps, params := ps, assign, body, defers := D })) P (Yo P N l ps.toList assign body env) := by
  refine ⟨fun hk ⟨h1, h2, h3⟩ => ⟨h1, h2, h3.mono fun e env1 st1 ⟨he, h4⟩ => ⟨he, h4.mono fun e env2 st2 h5 => ?_⟩⟩, ?_⟩
  · cases e <;> first | exact hk _ _ _ h5 | exact h5
  rintro s st xs K ⟨rfl, hlen, h⟩ G w vs hI hv ⟨hX, hL, hE⟩
  have hnl : ∀ (r : Loop) (cs : Array Value) (e : TypeId) (f : Nat × Nat), Obj.loop r ≠ .cells cs e f := fun _ _ _ _ h => by cases h
  refine ⟨fn, _, assign, body, run_yield hL (by rw [hv.1, hlen, Array.length_toList]), roundIn_of_wpIn trivial ?_⟩
  have hz : (ps.zip vs).foldl (fun t (p, v) => t.setIfInBounds p v) tmps = (ps.toList.zip vs.toList).foldl (fun t (p, v) => t.setIfInBounds p v) tmps := by
    rw [← Array.foldl_toList, Array.toList_zip]
  have hE1 : RE N G w (putps N ps.toList xs env) { tmps := (ps.zip vs).foldl (fun t (p, v) => t.setIfInBounds p v) tmps, defers := [] } := by
    rw [hz]
    exact putps_ok ps.toList xs vs.toList env tmps (by have := hv.1; simp; omega) (fun j r v a b => hv.2 j r v a (by rw [← Array.getElem?_toList]; exact b)) hE
  refine wpIn_mono (wpIn_fen (h.out G w _ hI hE1)) fun e a1 w1 ⟨G1, env1, st1, ⟨he, hb⟩, x1, i1, e1⟩ => ?_
  subst he
  have hX1 := x1.X _ hX
  have hL1 := (x1.kept _ hX).trans hL
  refine ⟨_, run_beginRound hL1 rfl, ?_⟩
  obtain ⟨w2, hw2⟩ : ∃ w2, w1.putObj l (.loop { state := .busy, pending := none, fn, tmps, params := ps, assign, body, defers := D }) = w2 := ⟨_, rfl⟩
  have hlt : l < w1.heap.size := (Array.getElem?_eq_some_iff.1 hL1).1
  have x2 : ExtM l G1 w1 G1 w2 := by rw [← hw2]; exact putObj_extM hL1 (hnl _)
  have s2 : SC w1 w2 := by rw [← hw2]; exact putObj_sc hL1 (hnl _)
  have hL2 : w2.heap[l]? = some (.loop { state := .busy, pending := none, fn, tmps, params := ps, assign, body, defers := D }) := by rw [← hw2]; exact World.putObj_heap_same hlt
  have no1 : NoCells w1 l := fun cs e f hc => by rw [hL1] at hc; cases hc
  have i2 := i1.sc s2 (by rw [← hw2]; exact Nat.le_of_eq World.putObj_size.symm)
  have e2 := e1.extM x2 no1 (fun hc => by rw [hL1] at hc; cases hc)
  have o2 := (hE.ext x1).extM x2 no1 (fun hc => by rw [hL1] at hc; cases hc)
  show body.wpIn (fen (some l)) 6 P (roundPost P l _) a1 (w1.putObj l (.loop { state := .busy, pending := none, fn, tmps, params := ps, assign, body, defers := D }))
  rw [hw2]
  refine wpIn_mono (wpIn_fen (hb.out G1 w2 a1 i2 e2)) fun e a3 w3 ⟨G3, env3, st3, hq, x3, i3, e3⟩ => ?_
  have hL3 := (x3.kept _ hX1).trans hL2
  have hlt3 : l < w3.heap.size := (Array.getElem?_eq_some_iff.1 hL3).1
  have o3 := o2.ext x3
  have done : ∀ (j : Option Code), K j.isNone j st3 → ∃ v w', (Instr.endRound l j).run P w3 = .ok v w' ∧ ∃ b G' s' st', Ending.returned v = .returned (.bool b) ∧ K b s' st' ∧ ExtM l G w G' w' ∧ Inv G' w' st' ∧ (lside N l env tmps (fun st pe => { state := st, pending := pe, fn, tmps, params := ps, assign, body, defers := D })).E s' G' w' := by
    intro j hK
    have x4 : ∀ o', ExtM l G3 w3 G3 (w3.putObj l o') := fun o' => putObj_extM hL3 (hnl _)
    have no3 : NoCells w3 l := fun cs e f hc => by rw [hL3] at hc; cases hc
    refine ⟨_, _, run_endRound j hL3, j.isNone, G3, j, st3, rfl, hK, ((((ExtM.of x1).trans x2).trans (.of x3)).trans (x4 _)), i3.sc (putObj_sc hL3 (hnl _)) (Nat.le_of_eq World.putObj_size.symm), x3.X _ hX1, World.putObj_heap_same hlt3, o3.extM (x4 _) no3 (fun hc => by rw [hL3] at hc; cases hc)⟩
  cases e with
  | normal => exact done none hq
  | ret => exact done (some .ret) hq
  | exit i => exact done (some (.exit i)) hq
  | goto t => exact done (some (.goto t)) hq
  | _ => exact hq.elim
end Go.Proofs.Ytfkkajibaeppbaa.D.Pm
namespace Go.Proofs.Ytfkkajibaeppbaa.D.Pm
set_option linter.unusedVariables false
set_option linter.unusedSimpArgs false
open Go
open Go.RowKit
variable {P : Program} {T : TT} {N : Nat}
/-- two blocks more: they no longer belong to anyone -/
def Gh.lay (G : Gh) (a b : Nat) : Gh := ⟨G.U, G.R, G.b, fun k => G.X k ∨ k = a ∨ k = b, G.B⟩
theorem Inv.lay {G : Gh} {w w' : World} {st : Sto} (hI : Inv G w st) (hs : w'.heap.size = w.heap.size + 2) (hk : ∀ k, k < w.heap.size → w'.heap[k]? = w.heap[k]?) (ho : w'.os = w.os ∧ w'.tape = w.tape ∧ w'.output = w.output) :
    Ext G w (G.lay w.heap.size (w.heap.size + 1)) w' ∧ Inv (G.lay w.heap.size (w.heap.size + 1)) w' st := by
  have x : Ext G w (G.lay w.heap.size (w.heap.size + 1)) w' := ⟨⟨by omega, fun _ h => h, fun _ h => .inl h, fun k h => hk k (hI.X k h), fun _ _ => .inr rfl, fun i g z hi hb cs e hc => ⟨cs, by rw [hk g (Array.getElem?_eq_some_iff.1 hc).1]; exact hc, rfl⟩⟩, fun _ h => h, fun _ _ h => h, ho, rfl⟩
  refine ⟨x, fun i o ho => ?_, fun i g sz hb => ?_, hI.inj, fun k h => ?_, hI.new⟩
  · obtain ⟨g, sz, cs, e, a, b, c, d, f, k⟩ := hI.obj i o ho
    exact ⟨g, sz, cs, e, a, b, by rw [hk g (Array.getElem?_eq_some_iff.1 c).1]; exact c, d, f, fun j x' v p q => (k j x' v p q).ext x⟩
  · obtain ⟨a, b, c⟩ := hI.lt i g sz hb
    exact ⟨a, by omega, fun hX => by rcases hX with hX | hX | hX; exact c hX; all_goals omega⟩
  · rcases h with h | h | h
    · have := hI.X k h; omega
    · omega
    · omega
/-- **a range over a function** -/
theorem Pw.rangeFunc {g : Operand} {ps : Array Tmp} {assign body : Code} {f : FuncId} {caps : List AC} {items : List (List AV)} {Q : Exit → Env → Sto → Prop} {env : Env} {st : Sto} (hg : ev env g = some (.c (.fn f caps))) (hit : Iter P f caps items)
    (h : ∀ l, rounds P N l ps.toList assign body Q env items st) : Pw (ρ := none) P N (.rangeFunc g ps assign body) Q env st := ⟨fun G w a hI hE => by
  refine wpIn_rangeFunc fun fn _ => ?_
  obtain ⟨rec, hrec⟩ : ∃ rec : LoopState → Option Code → Loop, rec = fun st pe => { state := st, pending := pe, fn, tmps := a.tmps, params := ps, assign, body, defers := w.heap.size } := ⟨_, rfl⟩
  obtain ⟨W1, hW1⟩ : ∃ W1, (w.alloc (.deferred (some []))).alloc (.loop (rec .ready none)) = W1 := ⟨_, rfl⟩
  have hold : ∀ k, k < w.heap.size → W1.heap[k]? = w.heap[k]? := fun k hk => by
    rw [← hW1]; exact (Below.heap_alloc _ _ k (by simp; omega)).trans (Below.heap_alloc _ _ k hk)
  have hs1 : W1.heap.size = w.heap.size + 2 := by rw [← hW1]; simp
  have hL1 : W1.heap[w.heap.size + 1]? = some (.loop (rec .ready none)) := by
    rw [← hW1]; have := heap_alloc_new (w.alloc (.deferred (some []))) (.loop (rec .ready none)); simpa using this
  have hD1 : W1.heap[w.heap.size]? = some (.deferred (some [])) := by
    rw [← hW1]; exact (Below.heap_alloc _ _ _ (by simp)).trans (heap_alloc_new w _)
  obtain ⟨x1, i1⟩ := hI.lay hs1 hold (by rw [← hW1]; exact ⟨rfl, rfl, rfl⟩)
  have hcv := (ev_ok hE hg).cel
  generalize hv : a.eval g = u at hcv
  cases hcv with
  | fn _ _ vs hl cv hc hcr =>
    have hM1 : (lside N (w.heap.size + 1) env a.tmps rec).E none (G.lay w.heap.size (w.heap.size + 1)) W1 := ⟨.inr (.inr rfl), hL1, ⟨hE.size, by
      have := hE.defers.B
      show G.B ≤ W1.heap.size
      omega, (hE.ext x1).at_⟩⟩
    have hd := hit (S := lside N (w.heap.size + 1) env a.tmps rec) (Y := Yo P N (w.heap.size + 1) ps.toList assign body env) (by rw [hrec]; exact lside_ok) (rounds_run (h (w.heap.size + 1)))
    obtain ⟨fn', code, hf1, hf2, hf3⟩ := hd.fn
    refine ⟨w.heap.size + 1, [{ target := .collected w.heap.size, args := #[] }], W1, { target := .fn (.func f) vs, args := #[.func (.yield (w.heap.size + 1)) #[] #[]] }, W1, f,
      #[.func (.yield (w.heap.size + 1)) #[] #[]] ++ vs, W1, ?_, ?_, fun _ _ => trivial, ?_, fun h => (by cases h), ?_⟩
    · rw [← hW1, hrec]; exact run_enterLoop_outer _ _ _ _ _
    · simp only [resolve, hv]
      simp [go_sem]
    · have hf4 : ¬ fn'.name = "runtime.NumGoroutine" := by simpa using hf3
      simp [invoke, callFunc, hf1, hf2, hf4]
    · refine callsIn_fen.2 ((hd.out _ W1 _ i1 ⟨by simp [hl]; omega, fun j r v hj hvj => ?_⟩ hM1 ?_).mono ?_)
      · match j with
        | 0 =>
          simp at hj
          rw [Array.getElem?_append_left (by simp)] at hvj
          simp at hvj
          subst hj; subst hvj
          exact .c _ _ (.yd _)
        | j + 1 =>
          rw [Array.getElem?_append_right (by simp)] at hvj
          simp at hvj
          rw [List.getElem?_cons_succ, List.getElem?_map] at hj
          cases hcj : caps[j]? with
          | none => rw [hcj] at hj; cases hj
          | some c =>
            rw [hcj] at hj
            cases hj
            have := hc _ c hcj
            rw [this] at hvj
            cases hvj
            exact .c _ _ ((hcr _ c hcj).ext x1)
      · have := hE.defers.B
        show G.B ≤ W1.heap.size
        omega
      · rintro e w3 ⟨G3, st3, s3, v, hK, rfl, x3, i3, hX3, hL3, hE3⟩
        have hj := run_endLoop (P := P) hL3 (by rw [hrec]; cases s3 <;> simp)
        obtain ⟨w4, hw4⟩ : ∃ w4, w3.putObj (w.heap.size + 1) (.loop { rec (if s3.isNone then .ready else .done) s3 with state := .exhausted }) = w4 := ⟨_, rfl⟩
        have hnl : ∀ (r : Loop) (cs : Array Value) (e : TypeId) (f : Nat × Nat), Obj.loop r ≠ .cells cs e f := fun _ _ _ _ h => by cases h
        have x4 : ExtM (w.heap.size + 1) G3 w3 G3 w4 := by rw [← hw4]; exact putObj_extM hL3 (hnl _)
        have s4 : SC w3 w4 := by rw [← hw4]; exact putObj_sc hL3 (hnl _)
        have i4 := i3.sc s4 (by rw [← hw4]; exact Nat.le_of_eq World.putObj_size.symm)
        have no3 : NoCells w3 (w.heap.size + 1) := fun cs e f hc => by rw [hL3] at hc; cases hc
        have e4 := hE3.extM x4 no3 (fun hc => by rw [hL3] at hc; cases hc)
        have xM := x3.trans x4
        have xx : Ext G w G3 w4 := by
          refine ⟨⟨Nat.le_trans x1.size xM.size, fun i hi => xM.U i (x1.U i hi), fun k hk => xM.X k (x1.X k hk), fun k hk => ?_, fun i hi => ?_, fun i g z hi hb cs e hc => ?_⟩, fun i hi => xM.R i (x1.R i hi), fun i hi hu => x1.res i hi (xM.res i (x1.R i hi) hu), ⟨xM.out.1.trans x1.out.1, xM.out.2.1.trans x1.out.2.1, xM.out.2.2.trans x1.out.2.2⟩, xM.B⟩
          · have := hI.X k hk
            rw [xM.kept k (x1.X k hk) (by omega)]; exact x1.kept k hk
          · exact xM.live i hi
          · exact xM.shape i g z hi hb cs e (by rw [hold g (Array.getElem?_eq_some_iff.1 hc).1]; exact hc)
        have hDm : w4.heap[w.heap.size]? = some (.deferred (some [])) := (xM.kept _ (.inr (.inl rfl)) (by omega)).trans hD1
        have hm : Marks G3 w4 ({ target := .collected w.heap.size, args := #[] } :: a.defers) := by
          refine ⟨⟨w.heap.size, rfl, ?_, xM.X _ (.inr (.inl rfl)), hDm, fun d' hd' e => ?_⟩, hE.defers.exts xx.toExtS xx.B⟩
          · rw [xx.B]; exact hE.defers.B
          · exact Nat.lt_irrefl _ (hE.defers.lt d' hd' _ e)
        have eE : RE N G3 w4 env { a with defers := [{ target := .collected w.heap.size, args := #[] }] ++ a.defers } := ⟨hE.size, hm, e4.at_⟩
        have hp : (rec (if s3.isNone = true then .ready else .done) s3).pending = s3 := by rw [hrec]
        refine ⟨s3, w4, hj.trans (by rw [hw4, hp]), ?_⟩
        clear hw4 hp hj hL3
        cases s3 with
        | none => exact ⟨G3, env, st3, hK, xx, i4, eE⟩
        | some c =>
          cases c with
          | ret => exact wpIn_ret ⟨G3, env, st3, hK, xx, i4, eE⟩
          | exit i => exact wpIn_exit ⟨G3, env, st3, hK, xx, i4, eE⟩
          | goto t => exact wpIn_goto ⟨G3, env, st3, hK, xx, i4, eE⟩
          | _ => exact hK.elim⟩
theorem Pw.gen {ρ : Option Nat} {c : Code} {Q : Exit → Env → Sto → Prop} {env : Env} {st : Sto} (h : ∀ S, S = st → Pw (ρ := ρ) P N c Q env S) : Pw (ρ := ρ) P N c Q env st := h _ rfl
end Go.Proofs.Ytfkkajibaeppbaa.D.Pm
namespace Go.Proofs.Ytfkkajibaeppbaa.D.Pm
set_option linter.unusedVariables false
set_option linter.unusedSimpArgs false
open Go
open Go.RowKit
variable {P : Program} {T : TT} {N : Nat}
/-- **a range over a function**, where the iterator has its own say -/
theorem Pw.rangeFuncD {g : Operand} {ps : Array Tmp} {assign body : Code} {f : FuncId} {caps : List AC} {Q : Exit → Env → Sto → Prop} {env : Env} {st : Sto} (hg : ev env g = some (.c (.fn f caps))) 
    (h : ∀ (l : Nat) (S : Side l (Option Code)), YieldOk S P (Yo P N l ps.toList assign body env) → DoesE S P f (.c (.yd l) :: caps.map .c) st none fun st s => jumpQ Q env st s) : Pw (ρ := none) P N (.rangeFunc g ps assign body) Q env st := ⟨fun G w a hI hE => by
  refine wpIn_rangeFunc fun fn _ => ?_
  obtain ⟨rec, hrec⟩ : ∃ rec : LoopState → Option Code → Loop, rec = fun st pe => { state := st, pending := pe, fn, tmps := a.tmps, params := ps, assign, body, defers := w.heap.size } := ⟨_, rfl⟩
  obtain ⟨W1, hW1⟩ : ∃ W1, (w.alloc (.deferred (some []))).alloc (.loop (rec .ready none)) = W1 := ⟨_, rfl⟩
  have hold : ∀ k, k < w.heap.size → W1.heap[k]? = w.heap[k]? := fun k hk => by
    rw [← hW1]; exact (Below.heap_alloc _ _ k (by simp; omega)).trans (Below.heap_alloc _ _ k hk)
  have hs1 : W1.heap.size = w.heap.size + 2 := by rw [← hW1]; simp
  have hL1 : W1.heap[w.heap.size + 1]? = some (.loop (rec .ready none)) := by
    rw [← hW1]; have := heap_alloc_new (w.alloc (.deferred (some []))) (.loop (rec .ready none)); simpa using this
  have hD1 : W1.heap[w.heap.size]? = some (.deferred (some [])) := by
    rw [← hW1]; exact (Below.heap_alloc _ _ _ (by simp)).trans (heap_alloc_new w _)
  obtain ⟨x1, i1⟩ := hI.lay hs1 hold (by rw [← hW1]; exact ⟨rfl, rfl, rfl⟩)
  have hcv := (ev_ok hE hg).cel
  generalize hv : a.eval g = u at hcv
  cases hcv with
  | fn _ _ vs hl cv hc hcr =>
    have hM1 : (lside N (w.heap.size + 1) env a.tmps rec).E none (G.lay w.heap.size (w.heap.size + 1)) W1 := ⟨.inr (.inr rfl), hL1, ⟨hE.size, by
      have := hE.defers.B
      show G.B ≤ W1.heap.size
      omega, (hE.ext x1).at_⟩⟩
    have hd := h (w.heap.size + 1) (lside N (w.heap.size + 1) env a.tmps rec) (by rw [hrec]; exact lside_ok)
    obtain ⟨fn', code, hf1, hf2, hf3⟩ := hd.fn
    refine ⟨w.heap.size + 1, [{ target := .collected w.heap.size, args := #[] }], W1, { target := .fn (.func f) vs, args := #[.func (.yield (w.heap.size + 1)) #[] #[]] }, W1, f,
      #[.func (.yield (w.heap.size + 1)) #[] #[]] ++ vs, W1, ?_, ?_, fun _ _ => trivial, ?_, fun h => (by cases h), ?_⟩
    · rw [← hW1, hrec]; exact run_enterLoop_outer _ _ _ _ _
    · simp only [resolve, hv]
      simp [go_sem]
    · have hf4 : ¬ fn'.name = "runtime.NumGoroutine" := by simpa using hf3
      simp [invoke, callFunc, hf1, hf2, hf4]
    · refine callsIn_fen.2 ((hd.out _ W1 _ i1 ⟨by simp [hl]; omega, fun j r v hj hvj => ?_⟩ hM1 ?_).mono ?_)
      · match j with
        | 0 =>
          simp at hj
          rw [Array.getElem?_append_left (by simp)] at hvj
          simp at hvj
          subst hj; subst hvj
          exact .c _ _ (.yd _)
        | j + 1 =>
          rw [Array.getElem?_append_right (by simp)] at hvj
          simp at hvj
          rw [List.getElem?_cons_succ, List.getElem?_map] at hj
          cases hcj : caps[j]? with
          | none => rw [hcj] at hj; cases hj
          | some c =>
            rw [hcj] at hj
            cases hj
            have := hc _ c hcj
            rw [this] at hvj
            cases hvj
            exact .c _ _ ((hcr _ c hcj).ext x1)
      · have := hE.defers.B
        show G.B ≤ W1.heap.size
        omega
      · rintro e w3 ⟨G3, st3, s3, v, hK, rfl, x3, i3, hX3, hL3, hE3⟩
        have hj := run_endLoop (P := P) hL3 (by rw [hrec]; cases s3 <;> simp)
        obtain ⟨w4, hw4⟩ : ∃ w4, w3.putObj (w.heap.size + 1) (.loop { rec (if s3.isNone then .ready else .done) s3 with state := .exhausted }) = w4 := ⟨_, rfl⟩
        have hnl : ∀ (r : Loop) (cs : Array Value) (e : TypeId) (f : Nat × Nat), Obj.loop r ≠ .cells cs e f := fun _ _ _ _ h => by cases h
        have x4 : ExtM (w.heap.size + 1) G3 w3 G3 w4 := by rw [← hw4]; exact putObj_extM hL3 (hnl _)
        have s4 : SC w3 w4 := by rw [← hw4]; exact putObj_sc hL3 (hnl _)
        have i4 := i3.sc s4 (by rw [← hw4]; exact Nat.le_of_eq World.putObj_size.symm)
        have no3 : NoCells w3 (w.heap.size + 1) := fun cs e f hc => by rw [hL3] at hc; cases hc
        have e4 := hE3.extM x4 no3 (fun hc => by rw [hL3] at hc; cases hc)
        have xM := x3.trans x4
        have xx : Ext G w G3 w4 := by
          refine ⟨⟨Nat.le_trans x1.size xM.size, fun i hi => xM.U i (x1.U i hi), fun k hk => xM.X k (x1.X k hk), fun k hk => ?_, fun i hi => ?_, fun i g z hi hb cs e hc => ?_⟩, fun i hi => xM.R i (x1.R i hi), fun i hi hu => x1.res i hi (xM.res i (x1.R i hi) hu), ⟨xM.out.1.trans x1.out.1, xM.out.2.1.trans x1.out.2.1, xM.out.2.2.trans x1.out.2.2⟩, xM.B⟩
          · have := hI.X k hk
            rw [xM.kept k (x1.X k hk) (by omega)]; exact x1.kept k hk
          · exact xM.live i hi
          · exact xM.shape i g z hi hb cs e (by rw [hold g (Array.getElem?_eq_some_iff.1 hc).1]; exact hc)
        have hDm : w4.heap[w.heap.size]? = some (.deferred (some [])) := (xM.kept _ (.inr (.inl rfl)) (by omega)).trans hD1
        have hm : Marks G3 w4 ({ target := .collected w.heap.size, args := #[] } :: a.defers) := by
          refine ⟨⟨w.heap.size, rfl, ?_, xM.X _ (.inr (.inl rfl)), hDm, fun d' hd' e => ?_⟩, hE.defers.exts xx.toExtS xx.B⟩
          · rw [xx.B]; exact hE.defers.B
          · exact Nat.lt_irrefl _ (hE.defers.lt d' hd' _ e)
        have eE : RE N G3 w4 env { a with defers := [{ target := .collected w.heap.size, args := #[] }] ++ a.defers } := ⟨hE.size, hm, e4.at_⟩
        have hp : (rec (if s3.isNone = true then .ready else .done) s3).pending = s3 := by rw [hrec]
        refine ⟨s3, w4, hj.trans (by rw [hw4, hp]), ?_⟩
        clear hw4 hp hj hL3
        cases s3 with
        | none => exact ⟨G3, env, st3, hK, xx, i4, eE⟩
        | some c =>
          cases c with
          | ret => exact wpIn_ret ⟨G3, env, st3, hK, xx, i4, eE⟩
          | exit i => exact wpIn_exit ⟨G3, env, st3, hK, xx, i4, eE⟩
          | goto t => exact wpIn_goto ⟨G3, env, st3, hK, xx, i4, eE⟩
          | _ => exact hK.elim⟩
/-- what goes to yield, one after another; all the while I holds of the memory -/
def runI {σ : Type} (I : Sto → Prop) (Y : σ → Sto → List AV → (Bool → σ → Sto → Prop) → Prop) : List (List AV) → σ → Sto → (Sto → σ → Prop) → Prop
  | [], s, st, K => I st ∧ K st s
  | x :: xs, s, st, K => I st ∧ Y s st x fun b s' st' => if b = true then runI I Y xs s' st' K else K st' s'
/-- an iterator that reads memory -/
def IterI (P : Program) (f : FuncId) (caps : List AC) (I : Sto → Prop) (items : List (List AV)) : Prop :=
  ∀ {σ : Type} {l : Nat} {S : Side l σ} {Y : σ → Sto → List AV → (Bool → σ → Sto → Prop) → Prop}, YieldOk S P Y → ∀ {s st} {K : Sto → σ → Prop}, runI I Y items s st K → DoesE S P f (.c (.yd l) :: caps.map .c) st s K
/-- the rounds of a loop, while I holds -/
def roundsI (P : Program) (N l : Nat) (ps : List Tmp) (assign body : Code) (I : Sto → Prop) (Q : Exit → Env → Sto → Prop) (env : Env) : List (List AV) → Sto → Prop
  | [], st => I st ∧ Q .normal env st
  | x :: xs, st => I st ∧ x.length = ps.length ∧ Pw (ρ := some l) P N assign (fun e env1 st1 => e = .normal ∧ Pw (ρ := some l) P N body (fun e _ st' => match e with
      | .normal => roundsI P N l ps assign body I Q env xs st'
      | .ret => Q .ret env st'
      | .exit i => Q (.exit i) env st'
      | .goto t => Q (.goto t) env st'
      | _ => False) env1 st1) (putps N ps x env) st
theorem rounds_runI {l : Nat} {ps : List Tmp} {assign body : Code} {I : Sto → Prop} {Q : Exit → Env → Sto → Prop} {env : Env} : ∀ {items : List (List AV)} {st : Sto}, roundsI P N l ps assign body I Q env items st → runI I (Yo P N l ps assign body env) items none st (fun st s => jumpQ Q env st s)
  | [], st, h => h
  | x :: xs, st, ⟨h0, h1, h2⟩ => ⟨h0, rfl, h1, h2.mono fun e env1 st1 ⟨he, h3⟩ => ⟨he, h3.mono fun e env2 st2 h4 => by
      cases e with
      | normal => show if true = true then _ else _; rw [if_pos rfl]; exact rounds_runI h4
      | ret => show if false = true then _ else _; rw [if_neg (by simp)]; exact h4
      | exit i => show if false = true then _ else _; rw [if_neg (by simp)]; exact h4
      | goto t => show if false = true then _ else _; rw [if_neg (by simp)]; exact h4
      | _ => exact h4⟩⟩
theorem Pw.rangeFuncI {g : Operand} {ps : Array Tmp} {assign body : Code} {f : FuncId} {caps : List AC} {I : Sto → Prop} {items : List (List AV)} {Q : Exit → Env → Sto → Prop} {env : Env} {st : Sto} (hg : ev env g = some (.c (.fn f caps))) (hit : IterI P f caps I items)
    (h : ∀ l, roundsI P N l ps.toList assign body I Q env items st) : Pw (ρ := none) P N (.rangeFunc g ps assign body) Q env st :=
  Pw.rangeFuncD hg fun l S hY => hit hY (rounds_runI (h l))
theorem roundsI_of {α : Type} (f : α → List AV) {l : Nat} {ps : List Tmp} {assign body : Code} {I : Sto → Prop} {Q : Exit → Env → Sto → Prop} {env : Env} (J : List α → Sto → Prop)
    (hI : ∀ r st, J r st → I st)
    (h0 : ∀ st, J [] st → Q .normal env st)
    (h1 : ∀ x r st, J (x :: r) st → (f x).length = ps.length ∧ Pw (ρ := some l) P N assign (fun e env1 st1 => e = .normal ∧ Pw (ρ := some l) P N body (fun e _ st' => match e with
      | .normal => J r st'
      | .ret => Q .ret env st'
      | .exit i => Q (.exit i) env st'
      | .goto t => Q (.goto t) env st'
      | _ => False) env1 st1) (putps N ps (f x) env) st) : ∀ (r : List α) (st : Sto), J r st → roundsI P N l ps assign body I Q env (r.map f) st
  | [], st, h => ⟨hI _ _ h, h0 st h⟩
  | x :: r, st, h => by
    obtain ⟨a, b⟩ := h1 x r st h
    refine ⟨hI _ _ h, a, b.mono fun e env1 st1 ⟨he, h3⟩ => ⟨he, h3.mono fun e env2 st2 h4 => ?_⟩⟩
    cases e with
    | normal => exact roundsI_of f J hI h0 h1 r _ h4
    | _ => exact h4
end Go.Proofs.Ytfkkajibaeppbaa.D.Pm
