/- Words and contracts: a plain machine over the model, and what the functions that a law reaches come to, each for every input that its theorem names. -/
import Derived.Test.YtnafgpgbedcdnaaDoorV2
import Derived.MapKept
import Derived.WideLaws
import Derived.RangeFuncIn
import Derived.RangeFuncRecord
namespace Go.Proofs.YtnafgpgbedcdnaaDoor.D.Pm
set_option linter.unusedVariables false
set_option linter.unusedSimpArgs false
open Go
/-- no block of cells -/
def NoCells (w : World) (r : Nat) : Prop := ∀ (cs : Array Value) (e : TypeId) (f : Nat × Nat), w.heap[r]? ≠ some (Obj.cells cs e f)
/-- what stands beside the machine -/
structure Side (r : Nat) (σ : Type) where
  E : σ → Gh → World → Prop
  ext : ∀ {s G w G' w'}, E s G w → Ext G w G' w' → E s G' w'
  base : ∀ {s G w c}, E s G w → c ≤ w.heap.size → E s (Gh.base G c) w
  sc : ∀ {s G w w'}, E s G w → SC w w' → w'.heap[r]? = w.heap[r]? → w.heap.size = w'.heap.size → E s G w'
  no : ∀ {s G w}, E s G w → G.X r ∧ NoCells w r ∧ w.heap[r]? ≠ some (.deferred (some []))
/-- what time may do, and the block r turns -/
structure ExtM (r : Nat) (G : Gh) (w : World) (G' : Gh) (w' : World) : Prop where
  size : w.heap.size ≤ w'.heap.size
  U : ∀ id, G.U id → G'.U id
  X : ∀ k, G.X k → G'.X k
  kept : ∀ k, G.X k → k ≠ r → w'.heap[k]? = w.heap[k]?
  live : ∀ id, G.U id → G'.b id = none ∨ G'.b id = G.b id
  shape : ∀ id g sz, G.U id → G'.b id = some (g, sz) → ∀ cs e, w.heap[g]? = some (.cells cs e (0, 0)) → ∃ cs', w'.heap[g]? = some (.cells cs' e (0, 0)) ∧ cs'.size = cs.size
  R : ∀ id, G.R id → G'.R id
  res : ∀ id, G.R id → G'.U id → G.U id
  out : w'.os = w.os ∧ w'.tape = w.tape ∧ w'.output = w.output
  B : G'.B = G.B
theorem ExtM.of {r : Nat} {G G' : Gh} {w w' : World} (x : Ext G w G' w') : ExtM r G w G' w' :=
  ⟨x.size, x.U, x.X, fun k h _ => x.kept k h, x.live, x.shape, x.R, x.res, x.out, x.B⟩
theorem ExtM.refl (r : Nat) (G : Gh) (w : World) : ExtM r G w G w := .of (.refl _ _)
theorem ExtM.trans {r : Nat} {G G1 G2 : Gh} {w w1 w2 : World} (h : ExtM r G w G1 w1) (h' : ExtM r G1 w1 G2 w2) : ExtM r G w G2 w2 where
  size := Nat.le_trans h.size h'.size
  U := fun id hi => h'.U id (h.U id hi)
  X := fun k hk => h'.X k (h.X k hk)
  kept := fun k hk hr => (h'.kept k (h.X k hk) hr).trans (h.kept k hk hr)
  live := fun id hi => by
    rcases h'.live id (h.U id hi) with h1 | h1
    · exact .inl h1
    · rcases h.live id hi with h2 | h2
      · exact .inl (h1.trans h2)
      · exact .inr (h1.trans h2)
  shape := fun id g sz hi hb cs e hc => by
    have h1 : G1.b id = some (g, sz) := by
      rcases h'.live id (h.U id hi) with h1 | h1
      · rw [h1] at hb; cases hb
      · rw [← h1]; exact hb
    obtain ⟨cs1, hc1, hs1⟩ := h.shape id g sz hi h1 cs e hc
    obtain ⟨cs2, hc2, hs2⟩ := h'.shape id g sz (h.U id hi) hb cs1 e hc1
    exact ⟨cs2, hc2, hs2.trans hs1⟩
  R := fun id hi => h'.R id (h.R id hi)
  res := fun id hi hu => h.res id hi (h'.res id (h.R id hi) hu)
  out := ⟨h'.out.1.trans h.out.1, h'.out.2.1.trans h.out.2.1, h'.out.2.2.trans h.out.2.2⟩
  B := h'.B.trans h.B
theorem ExtM.cell {r : Nat} {G G' : Gh} {w w' : World} (x : ExtM r G w G' w') (hr : NoCells w r) {a : Addr} {v : Value} (hX : G.X a.block) (hc : w.cell? a = some v) : w'.cell? a = some v := by
  by_cases h : a.block = r
  · exfalso
    unfold World.cell? at hc
    rw [h] at hc
    cases hk : w.heap[r]? with
    | none => rw [hk] at hc; cases hc
    | some o =>
      rw [hk] at hc
      cases o with
      | cells cs e f => exact hr cs e f hk
      | _ => cases hc
  · rw [cell_block (x.kept _ hX h)]; exact hc
theorem RC.extM {r : Nat} {G G' : Gh} {w w' : World} (x : ExtM r G w G' w') (hr : NoCells w r) {c : AC} {v : Value} (h : RC G w c v) : RC G' w' c v :=
  h.stp ⟨x.U, x.X, fun _ _ hX hc => x.cell hr hX hc, x.live, x.shape⟩
theorem RV.extM {r : Nat} {G G' : Gh} {w w' : World} (x : ExtM r G w G' w') (hr : NoCells w r) {c : AV} {v : Value} (h : RV G w c v) : RV G' w' c v := by
  induction h with
  | c y v h => exact .c y v (h.extM x hr)
  | g cs vs hl h => exact .g cs vs hl (fun j c v h1 h2 => (h j c v h1 h2).extM x hr)
  | t xs vs hl h ih => exact .t xs vs hl ih
theorem Marks.extM {r : Nat} {G G' : Gh} {w w' : World} (x : ExtM r G w G' w') (hr : w.heap[r]? ≠ some (.deferred (some []))) : ∀ {l : List Deferred}, Marks G w l → Marks G' w' l
  | [], h => by
    have h : G.B ≤ w.heap.size := h
    show G'.B ≤ w'.heap.size
    rw [x.B]; exact Nat.le_trans h x.size
  | d :: ds, ⟨⟨D, h1, h2, h3, h4, h5⟩, h⟩ => ⟨⟨D, h1, x.B ▸ h2, x.X _ h3, (x.kept _ h3 (fun e => hr (e ▸ h4))).trans h4, h5⟩, Marks.extM x hr h⟩
theorem RE.extM {r N : Nat} {G G' : Gh} {w w' : World} (x : ExtM r G w G' w') (hr : NoCells w r) (hd : w.heap[r]? ≠ some (.deferred (some []))) {env : Env} {a : Act} (h : RE N G w env a) : RE N G' w' env a :=
  ⟨h.size, h.defers.extM x hd, fun t u hl => let ⟨v, h1, h2⟩ := h.at_ t u hl; ⟨v, h1, h2.extM x hr⟩⟩
/-- code beside something -/
structure PwE {σ : Type} {r : Nat} (S : Side r σ) {ρ : Option Nat} (P : Program) (N : Nat) (c : Code) (Q : Exit → Env → Sto → σ → Prop) (env : Env) (st : Sto) (s : σ) : Prop where
  mk ::
  out : ∀ G w a, Inv G w st → RE N G w env a → S.E s G w → c.wpIn (fen ρ) 7 P (fun e a' w' => ∃ G' env' st' s', Q e env' st' s' ∧ ExtM r G w G' w' ∧ Inv G' w' st' ∧ RE N G' w' env' a' ∧ S.E s' G' w') a w
section
variable {σ : Type} {r : Nat} {S : Side r σ} {ρ : Option Nat} {P : Program} {T : TT} {N : Nat} {Q : Exit → Env → Sto → σ → Prop} {env : Env} {st : Sto} {s : σ}
theorem PwE.pw {c : Code} (h : Pw (ρ := ρ) P N c (fun e env st => Q e env st s) env st) : PwE S (ρ := ρ) P N c Q env st s :=
  ⟨fun G w a hI hE hM => wpIn_mono (h.out G w a hI hE) fun e a' w' ⟨G', env', st', h1, h2, h3, h4⟩ => ⟨G', env', st', s, h1, .of h2, h3, h4, S.ext hM h2⟩⟩
theorem PwE.seq {x y : Code} (h : PwE S (ρ := ρ) P N x (fun e env st s => match e with | .normal => PwE S (ρ := ρ) P N y Q env st s | e => Q e env st s) env st s) : PwE S (ρ := ρ) P N (.seq x y) Q env st s := ⟨fun G w a hI hE hM => by
  refine wpIn_seq (wpIn_mono (h.out G w a hI hE hM) fun e a' w' ⟨G', env', st', s', h1, h2, h3, h4, h5⟩ => ?_)
  cases e with
  | normal => exact wpIn_mono (h1.out G' w' a' h3 h4 h5) fun e a2 w2 ⟨G2, e2, s2, k2, b1, b2, b3⟩ => ⟨G2, e2, s2, k2, b1, h2.trans b2, b3⟩
  | _ => exact ⟨G', env', st', s', h1, h2, h3, h4, h5⟩⟩
theorem PwE.block {id : Nat} {x : Code} (h : PwE S (ρ := ρ) P N x (fun e env st s => match e with | .exit i => if i = id then Q .normal env st s else Q (.exit i) env st s | e => Q e env st s) env st s) : PwE S (ρ := ρ) P N (.block id x) Q env st s := ⟨fun G w a hI hE hM => by
  refine wpIn_block (wpIn_mono (h.out G w a hI hE hM) fun e a' w' ⟨G', env', st', s', h1, h2⟩ => ?_)
  cases e with
  | exit i =>
    dsimp only at h1
    unfold Exit.inBlock
    by_cases hi : i = id
    · simp only [hi, if_true] at h1 ⊢; exact ⟨G', env', st', s', h1, h2⟩
    · simp only [hi, if_false] at h1 ⊢; exact ⟨G', env', st', s', h1, h2⟩
  | _ => exact ⟨G', env', st', s', h1, h2⟩⟩
theorem PwE.vw {c : Code} {env' : Env} {st' : Sto} (hv : Vw env st env' st') (h : PwE S (ρ := ρ) P N c Q env' st' s) : PwE S (ρ := ρ) P N c Q env st s := by
  obtain ⟨D, h1, h2⟩ := hv
  refine ⟨fun G w a hI hE hM => ?_⟩
  have x := Ext.frz G D st w
  exact wpIn_mono (h.out _ w a (hI.frz D h2) (EV.ok hI hE h1) (S.ext hM x)) fun e a' w' ⟨G', e', s', k', b1, b2, b3⟩ => ⟨G', e', s', k', b1, (ExtM.of x).trans b2, b3⟩
theorem PwE.mono {c : Code} {Q' : Exit → Env → Sto → σ → Prop} (h : PwE S (ρ := ρ) P N c Q env st s) (hq : ∀ e env st s, Q e env st s → Q' e env st s) : PwE S (ρ := ρ) P N c Q' env st s :=
  ⟨fun G w a hI hE hM => wpIn_mono (h.out G w a hI hE hM) fun e a' w' ⟨G', env', st', k', h1, h2⟩ => ⟨G', env', st', k', hq _ _ _ _ h1, h2⟩⟩
theorem PwE.cond {c : Operand} {x y : Code} {b : Bool} (hc : ev env c = some (.c (.v (.bool b)))) (h : PwE S (ρ := ρ) P N (if b then x else y) Q env st s) : PwE S (ρ := ρ) P N (.cond c x y) Q env st s := ⟨fun G w a hI hE hM => by
  have := (ev_ok hE hc).cel
  have e1 : a.eval c = .bool b := by generalize a.eval c = u at this; cases this; rfl
  refine wpIn_cond e1 ?_
  have := h.out G w a hI hE hM
  cases b <;> exact this⟩
theorem PwE.loop {τ : Type} (e : τ → Env) (s0 : τ → Sto) (κ : τ → σ) (I : τ → Prop) (μ : τ → Nat) {c : Code} (h0 : ∃ x, Vw env st (e x) (s0 x) ∧ κ x = s ∧ I x)
    (round : ∀ x, I x → PwE S (ρ := ρ) P N c (fun ex env' st' s' => match ex with | .normal => ∃ y, Vw env' st' (e y) (s0 y) ∧ κ y = s' ∧ I y ∧ μ y < μ x | ex => Q ex env' st' s') (e x) (s0 x) (κ x)) : PwE S (ρ := ρ) P N (.loop c) Q env st s := by
  obtain ⟨x, hv, rfl, hx⟩ := h0
  refine .vw hv ⟨fun G w a hI hE hM => ?_⟩
  have key : ∀ (n : Nat) (x : τ) (G1 : Gh) (w1 : World) (a1 : Act), μ x < n → I x → ExtM r G w G1 w1 → Inv G1 w1 (s0 x) → RE N G1 w1 (e x) a1 → S.E (κ x) G1 w1 →
      Code.roundsIn (fen ρ) 7 P c (fun e a' w' => ∃ G' env' st' s', Q e env' st' s' ∧ ExtM r G w G' w' ∧ Inv G' w' st' ∧ RE N G' w' env' a' ∧ S.E s' G' w') n a1 w1 := by
    intro n
    induction n with
    | zero => intro x G1 w1 a1 h; exact absurd h (Nat.not_lt_zero _)
    | succ n ih =>
      intro x G1 w1 a1 hm hx hX hI hE hM
      rw [roundsIn_succ]
      refine wpIn_mono ((round x hx).out G1 w1 a1 hI hE hM) fun ex a2 w2 ⟨G2, e2, s2, k2, h1, h2, h3, h4, h5⟩ => ?_
      cases ex with
      | normal =>
        obtain ⟨y, ⟨D, hv1, hv2⟩, rfl, hy, hlt⟩ := h1
        exact ih y _ w2 a2 (by omega) hy ((hX.trans h2).trans (.of (Ext.frz G2 D s2 w2))) (h3.frz D hv2) (EV.ok h3 h4 hv1) (S.ext h5 (Ext.frz G2 D s2 w2))
      | _ => exact ⟨G2, e2, s2, k2, h1, hX.trans h2, h3, h4, h5⟩
  exact wpIn_loop_rounds (μ x + 1) (key _ x G w a (Nat.lt_succ_self _) hx (.refl _ _ _) hI hE hM)
/-- an operation beside something -/
def OpOkE {r : Nat} (S : Side r σ) (ρ : Option Nat) (P : Program) (N : Nat) (o : Oper) (env : Env) (st : Sto) (s : σ) (K : Env → Sto → σ → Prop) : Prop :=
  ∀ G w a, Inv G w st → RE N G w env a → S.E s G w → ∀ Q, o.wpIn (fen ρ) 7 P a w (fun a' w' => ∃ G' env' st' s', K env' st' s' ∧ ExtM r G w G' w' ∧ Inv G' w' st' ∧ RE N G' w' env' a' ∧ S.E s' G' w') Q
def vopsE (P : Program) (T : TT) (N : Nat) (sp : Oper → Env → Sto → σ → (Env → Sto → σ → Prop) → Prop) (ops : Array Oper) : List Oper → Env → Sto → σ → (Env → Sto → σ → Prop) → Prop
  | [], env, st, s, Q => Q env st s
  | o :: l, env, st, s, Q => (o.guard = none ∧ sp o env st s fun env st s => vopsE P T N sp ops l env st s Q) ∨ vgo P T N [] ops o env st fun env st => vopsE P T N sp ops l env st s Q
theorem vgo_ok (TP : TOk P T) {S : List Nat} {ops : Array Oper} {o : Oper} {K : Env → Sto → Prop} (h : vgo P T N S ops o env st K) {G : Gh} {w : World} {a : Act} (hI : Inv G w st) (hE : RE N G w env a) {k : Nat} (hko : ops[k]? = some o) {Q : Exit → Act → World → Prop} :
    wpOpIn (fen ρ) 7 P ops Q k (fun a' w' => ∃ G' env' st', K env' st' ∧ Ext G w G' w' ∧ Inv G' w' st' ∧ RE N G' w' env' a') a w := by
  unfold wpOpIn
  rw [hko]
  dsimp only
  unfold vgo at h
  have put0 : RE N G w (put N env o.dst (.t [])) (a.put o.dst undef) := hE.put (.t [] _ rfl (fun j x v h _ => by simp at h)) _
  cases hg : o.guard with
  | none =>
    rw [hg] at h
    have hw : Region.wanted o (yielded ops a.tmps) = true := by simp [Region.wanted, hg]
    rw [if_pos hw]
    exact vopF_ok TP h ρ G w a hI hE _
  | some jw =>
    obtain ⟨j, want⟩ := jw
    rw [hg] at h
    dsimp only at h
    obtain ⟨d, h1, h⟩ := onO_iff.1 h
    obtain ⟨r, h2, h⟩ := onO_iff.1 h
    obtain ⟨v, h3, h4⟩ := hE.at_ _ _ h2
    rcases onG_ok h with ⟨⟨l, rfl⟩, hA⟩ | ⟨b, rfl, hh⟩
    · have hv : ∃ vs, v = .tuple vs := by cases h4; exact ⟨_, rfl⟩
      obtain ⟨vs, rfl⟩ := hv
      have hy : yielded ops a.tmps j = none := by simp [yielded, h1, h3]
      have hw : ¬ (Region.wanted o (yielded ops a.tmps) = true) := by simp [Region.wanted, hg, hy]
      rw [if_neg hw]
      exact ⟨fun _ _ => trivial, G, _, _, hA, Ext.refl _ _, hI, put0⟩
    clear h
    have hv : v = .bool b := by have := h4.cel; cases this; rfl
    subst hv
    have hy : yielded ops a.tmps j = some b := by simp [yielded, h1, h3]
    have hw : Region.wanted o (yielded ops a.tmps) = (b == want) := by simp [Region.wanted, hg, hy]
    rw [hw]
    by_cases hb : b = want
    · rw [if_pos hb] at hh
      rw [if_pos (by simp [hb])]
      exact vopF_ok TP hh ρ G w a hI hE _
    · rw [if_neg hb] at hh
      rw [if_neg (by simp [hb])]
      exact ⟨fun _ _ => trivial, G, _, _, hh, Ext.refl _ _, hI, put0⟩
theorem vopsE_ok (TP : TOk P T) {sp : Oper → Env → Sto → σ → (Env → Sto → σ → Prop) → Prop} (hsp : ∀ o env st s K, sp o env st s K → OpOkE S ρ P N o env st s K) {ops : Array Oper} {Q : Env → Sto → σ → Prop} {G0 : Gh} {w0 : World} :
    ∀ (l : List Oper) (k : Nat), ops.toList.drop k = l → ∀ {env : Env} {st : Sto} {s : σ}, vopsE P T N sp ops l env st s Q → ∀ G w a, ExtM r G0 w0 G w → Inv G w st → RE N G w env a → S.E s G w →
    wpOpsIn (fen ρ) 7 P ops (fun e a' w' => ∃ G' env' st' s', e = .normal ∧ Q env' st' s' ∧ ExtM r G0 w0 G' w' ∧ Inv G' w' st' ∧ RE N G' w' env' a' ∧ S.E s' G' w') (List.range' k l.length) a w
  | [], k, hk, env, st, s, h, G, w, a, hX, hI, hE, hM => ⟨G, env, st, s, rfl, h, hX, hI, hE, hM⟩
  | o :: l, k, hk, env, st, s, h, G, w, a, hX, hI, hE, hM => by
    have hko : ops[k]? = some o := by
      have := congrArg (·[0]?) hk
      simpa [List.getElem?_drop] using this
    have hk' : ops.toList.drop (k + 1) = l := by rw [← List.drop_drop, hk]; rfl
    rw [List.length_cons, List.range'_succ, wpOpsIn_cons]
    rcases h with ⟨hg, h⟩ | h
    · unfold wpOpIn
      rw [hko]
      dsimp only
      have hw : Region.wanted o (yielded ops a.tmps) = true := by simp [Region.wanted, hg]
      rw [if_pos hw]
      refine Oper.wpIn_mono ?_ (hsp _ _ _ _ _ h G w a hI hE hM _)
      rintro a' w' ⟨G', env', st', s', h1, h2, h3, h4, h5⟩
      exact vopsE_ok TP hsp l (k + 1) hk' h1 G' w' a' (hX.trans h2) h3 h4 h5
    · refine wpOpIn_q (fun _ _ _ h => h) ?_ (vgo_ok TP h hI hE hko)
      rintro a' w' ⟨G', env', st', h1, h2, h3, h4⟩
      exact vopsE_ok TP hsp l (k + 1) hk' h1 G' w' a' (hX.trans (.of h2)) h3 h4 (S.ext hM h2)
theorem PwE.region (TP : TOk P T) {sp : Oper → Env → Sto → σ → (Env → Sto → σ → Prop) → Prop} (hsp : ∀ o env st s K, sp o env st s K → OpOkE S ρ P N o env st s K) {id : Nat} {ops : Array Oper} (h : vopsE P T N sp ops ops.toList env st s (Q .normal)) : PwE S (ρ := ρ) P N (.region id ops false) Q env st s := ⟨fun G w a hI hE hM => by
  refine wpIn_region (?_ : wpOpsIn (fen ρ) 7 P ops _ (List.range ops.size) a w)
  have := vopsE_ok TP hsp (G0 := G) (w0 := w) ops.toList 0 rfl h G w a (.refl _ _ _) hI hE hM
  have e : List.range ops.size = List.range' 0 ops.toList.length := by rw [List.range_eq_range', Array.length_toList]
  rw [e]
  exact wpOpsIn_q (fun e a w ⟨G', env', st', s', he, h1⟩ => ⟨G', env', st', s', he ▸ h1⟩) _ _ _ this⟩
end
end Go.Proofs.YtnafgpgbedcdnaaDoor.D.Pm
namespace Go.Proofs.YtnafgpgbedcdnaaDoor.D.Pm
set_option linter.unusedVariables false
set_option linter.unusedSimpArgs false
open Go
/-- a map whose keys are these texts lies in the block r -/
def Mp (r : Nat) (ks : List ByteArray) (G : Gh) (w : World) : Prop := G.X r ∧ ∃ es clock, w.heap[r]? = some (.map es clock) ∧ es.toList.map (·.key) = ks.map Value.string
theorem Mp.ext {r : Nat} {ks : List ByteArray} {G G' : Gh} {w w' : World} (h : Mp r ks G w) (x : Ext G w G' w') : Mp r ks G' w' := by
  obtain ⟨h1, es, cl, h2, h3⟩ := h
  exact ⟨x.X _ h1, es, cl, (x.kept _ h1).trans h2, h3⟩
def addKey (ks : List ByteArray) (s : ByteArray) : List ByteArray := if ks.any (fun k => decide (s = k)) = true then ks else ks ++ [s]
theorem any_mem {ks : List ByteArray} {s : ByteArray} : ks.any (fun k => decide (s = k)) = true ↔ s ∈ ks := by
  rw [List.any_eq_true]
  exact ⟨fun ⟨x, h1, h2⟩ => by have := of_decide_eq_true h2; rw [this]; exact h1, fun h => ⟨s, h, decide_eq_true rfl⟩⟩
theorem run_mapUpdate {P : Program} {w : World} {t kt et : TypeId} {r : Nat} {es : Array MapEntry} {cl : Nat} {ks : List ByteArray} {s : ByteArray} {v : Value} (ht : P.underlying t = some (.map kt et)) (hk : P.underlying kt = some .string) (hb : w.heap[r]? = some (.map es cl))
    (hks : es.toList.map (·.key) = ks.map Value.string) : ∃ es' cl', (Instr.mapUpdate t (.map (some r)) (.string s) v).run P w = .ok () { w with heap := w.heap.setIfInBounds r (.map es' cl') } ∧ es'.toList.map (·.key) = (addKey ks s).map Value.string := by
  have hkey : MapKept.IsKey .string (.string s) := trivial
  have hall : ∀ x ∈ es.toList, MapKept.IsKey .string x.key := fun x hx => by
    have : x.key ∈ es.toList.map (·.key) := List.mem_map.2 ⟨x, hx, rfl⟩
    rw [hks] at this
    obtain ⟨y, _, hy⟩ := List.mem_map.1 this
    rw [← hy]; trivial
  rcases MapKept.findNow_spec hkey es.toList 0 hall with ⟨h1, h2⟩ | ⟨j, e0, h1, h2, h3⟩
  · refine ⟨es.push ⟨.string s, v, cl⟩, cl + 1, by simp [Instr.mapUpdate, run_underlying ht, MapKept.run_getObj_map hb, MapKept.run_checkKey hk hkey, MapKept.run_findKey hk h1, MapKept.run_setObj_map _ hb, Result.andThen], ?_⟩
    have hn : s ∉ ks := fun hm => by
      have : Value.string s ∈ es.toList.map (·.key) := by rw [hks]; exact List.mem_map.2 ⟨s, hm, rfl⟩
      obtain ⟨x, hx, hy⟩ := List.mem_map.1 this
      exact h2 x hx hy
    rw [addKey, if_neg (fun h => hn (any_mem.1 h)), List.map_append, ← hks]; simp
  · have hj : es[j]? = some e0 := by simpa using h2
    refine ⟨es.modify j (fun e' => { e' with key := .string s, val := v }), cl, by simp [Instr.mapUpdate, run_underlying ht, MapKept.run_getObj_map hb, MapKept.run_checkKey hk hkey, MapKept.run_findKey hk h1, hj, h3, MapKept.run_keyThatStays hkey, MapKept.run_setObj_map _ hb, Result.andThen], ?_⟩
    have hm : s ∈ ks := by
      have : Value.string s ∈ es.toList.map (·.key) := List.mem_map.2 ⟨e0, List.mem_of_getElem? h2, h3⟩
      rw [hks] at this
      obtain ⟨x, hx, hy⟩ := List.mem_map.1 this
      cases hy
      exact hx
    rw [addKey, if_pos (any_mem.2 hm), ← hks]
    apply List.ext_getElem?
    intro i
    rw [List.getElem?_map, List.getElem?_map, Array.getElem?_toList, Array.getElem?_toList, Array.getElem?_modify]
    by_cases hij : j = i
    · subst hij
      rw [if_pos rfl, hj]
      simp [h3]
    · rw [if_neg hij]
/-- a map beside the machine -/
def mpS (r : Nat) : Side r (List ByteArray) where
  E := fun ks G w => Mp r ks G w
  ext := fun h x => h.ext x
  base := fun h _ => h
  sc := fun h _ hl _ => ⟨h.1, let ⟨es, cl, h2, h3⟩ := h.2; ⟨es, cl, hl.trans h2, h3⟩⟩
  no := fun {s G w} h => by
    obtain ⟨h1, es, cl, h2, h3⟩ := h
    exact ⟨h1, (fun cs e f hc => by rw [h2] at hc; cases hc), (fun hc => by rw [h2] at hc; cases hc)⟩
theorem und_mp {P : Program} {T : TT} (TP : TOk P T) {t k e : TypeId} {i : TI} (h : T t = some i) (hd : i.d = .mp k e) : P.underlying t = some (.map k e) := by
  obtain ⟨d, h1, h2⟩ := TP.u t i h
  rw [hd] at h2; rw [h1]; exact congrArg some h2
/-- operations on the map -/
def spM (T : TT) (N r : Nat) (o : Oper) (env : Env) (st : Sto) (ks : List ByteArray) (K : Env → Sto → List ByteArray → Prop) : Prop :=
  match o.op with
  | .mapUpdate t m k _ => ∃ i kt et j s, T t = some i ∧ i.d = .mp kt et ∧ T kt = some j ∧ j.d = .s ∧ ev env m = some (.c (.v (.map (some r)))) ∧ ev env k = some (vS s) ∧ K (put N env o.dst (.t [])) st (addKey ks s)
  | .call { callee := .builtin .len, args := as, argTypes := ts } => ∃ t x i kt et, as = #[x] ∧ ts = #[t] ∧ T t = some i ∧ i.d = .mp kt et ∧ ev env x = some (.c (.v (.map (some r)))) ∧ K (put N env o.dst (vI .i64 (ks.length : Nat))) st ks
  | _ => False
theorem spM_ok {P : Program} {T : TT} (TP : TOk P T) {N r : Nat} {ρ : Option Nat} : ∀ o env st s K, spM T N r o env st s K → OpOkE (mpS r) ρ P N o env st s K := by
  intro o env st ks K h G w a hI hE hM Q
  obtain ⟨dst, op, ty, pos, after, guard⟩ := o
  unfold spM at h
  split at h
  · rename_i t m k x ho
    dsimp only at ho
    subst ho
    obtain ⟨i, kt, et, j, s, h1, h2, h3, h4, hm, hs, hK⟩ := h
    have ht := und_mp TP h1 h2
    have hk := und_s TP h3 h4
    have hM' := hM
    obtain ⟨hX, es, cl, hb, hks⟩ := hM
    have e1 : a.eval m = .map (some r) := by have := (ev_ok hE hm).cel; generalize a.eval m = u at this; cases this; rfl
    have e2 : a.eval k = .string s := by have := (ev_ok hE hs).cel; generalize a.eval k = u at this; cases this; rfl
    obtain ⟨es', cl', hr, hks'⟩ := run_mapUpdate (v := a.eval x) (s := s) ht hk hb hks
    have hlt : r < w.heap.size := (Array.getElem?_eq_some_iff.1 hb).1
    obtain ⟨w', hw'⟩ : ∃ w' : World, { w with heap := w.heap.setIfInBounds r (.map es' cl') } = w' := ⟨_, rfl⟩
    rw [hw'] at hr
    have hoth : ∀ j, j ≠ r → w'.heap[j]? = w.heap[j]? := fun j hj => by rw [← hw']; simp [Ne.symm hj]
    have hself : w'.heap[r]? = some (.map es' cl') := by rw [← hw']; simp [hlt]
    have hsz : w'.heap.size = w.heap.size := by rw [← hw']; simp
    have hrun : (execOp a.eval ⟨dst, .mapUpdate t m k x, ty, pos, after, guard⟩).run P w = .ok .skip w' := by
      unfold execOp
      simp [e1, e2, hr]
    have sc : SC w w' := fun q cs e f hc => by
      have : q ≠ r := fun h => by subst h; rw [hb] at hc; cases hc
      rw [hoth q this]; exact hc
    have xx : ExtM r G w G w' := ⟨Nat.le_of_eq hsz.symm, fun _ h => h, fun _ h => h, fun k _ hk => hoth k hk, fun _ _ => .inr rfl, fun id g sz _ _ cs e hc => ⟨cs, sc _ _ _ _ hc, rfl⟩, fun _ h => h, fun _ _ h => h, by rw [← hw']; exact ⟨rfl, rfl, rfl⟩, rfl⟩
    obtain ⟨q1, q2, q3⟩ := (mpS r).no hM'
    exact wpK hrun ⟨G, _, st, addKey ks s, hK, xx, hI.sc sc (Nat.le_of_eq hsz.symm), (hE.extM xx q2 q3).put (.t [] _ rfl (fun j x v h _ => by simp at h)) _, hX, es', cl', hself, hks'⟩
  · rename_i as ts ho
    dsimp only at ho
    subst ho
    obtain ⟨t, x, i, kt, et, rfl, rfl, h1, h2, hm, hK⟩ := h
    have ht := und_mp TP h1 h2
    have hM' := hM
    obtain ⟨hX, es, cl, hb, hks⟩ := hM
    have e1 : a.eval x = .map (some r) := by have := (ev_ok hE hm).cel; generalize a.eval x = u at this; cases this; rfl
    have hsz : es.size = ks.length := by have := congrArg List.length hks; simpa using this
    have hu : P.underlying t = some (.map (P.mapKeyOf t) (P.mapElemOf t)) := by simp [Program.mapKeyOf, Program.mapElemOf, ht]
    have hl := Go.run_len_map (P := P) (w := w) t ty r es cl hu hb
    have hrun : (execOp a.eval ⟨dst, .call { callee := .builtin .len, args := #[x], argTypes := #[t] }, ty, pos, after, guard⟩).run P w = .ok (.value (.int .i64 (ks.length : Nat))) w := by
      have he : execOp a.eval ⟨dst, .call { callee := .builtin .len, args := #[x], argTypes := #[t] }, ty, pos, after, guard⟩ = (do pure (.value (← Builtin.len_ #[t] ty (#[x].map a.eval)))) := rfl
      rw [he]
      simp only [List.map_toArray, List.map_cons, List.map_nil, e1]
      simp only [Sem.run_bind, hl, Result.andThen]
      rw [hsz]; rfl
    exact wpV hrun ⟨G, _, st, ks, hK, .refl _ _ _, hI, hE.put (RV.one _ rfl) _, hM'⟩
  · exact h.elim
/-- a new map, and what goes on beside it -/
theorem Pw.newMap {ρ : Option Nat} {P : Program} {T : TT} (TP : TOk P T) {N id t d : Nat} {o1 o2 : Oper} {rest : Code} {Q : Exit → Env → Sto → Prop} {env : Env} {st : Sto} (h1 : o1.op = .makeMap t none) (d1 : o1.dst = some d) (g1 : o1.guard = none) (h2 : o2.op = .assign (.tmp d)) (g2 : o2.guard = none) (hN : d < N)
    (h : ∀ r, PwE (mpS r) (ρ := ρ) P N rest (fun e env st _ => Q e env st) (put N (put N env (some d) (.c (.v (.map (some r))))) o2.dst (.c (.v (.map (some r))))) st []) : Pw (ρ := ρ) P N (.seq (.region id #[o1, o2] false) rest) Q env st := ⟨fun G w a hI hE => by
  have e1 : (execOp a.eval o1).run P w = .ok (.value (.map (some w.heap.size))) (w.alloc (.map #[] 0)) := by
    unfold execOp
    rw [h1]
    simp [RowKit.run_makeMap]
  have e2 : (execOp (a.put o1.dst (.map (some w.heap.size))).eval o2).run P (w.alloc (.map #[] 0)) = .ok (.value (.map (some w.heap.size))) (w.alloc (.map #[] 0)) := by
    have hlt : d < a.tmps.size := by rw [hE.size]; exact hN
    unfold execOp
    rw [h2, d1]
    simp [Act.put, Act.eval, hlt]
  have hold : ∀ k, k < w.heap.size → (w.alloc (.map #[] 0)).heap[k]? = w.heap[k]? := fun k hk => push_old hk
  obtain ⟨x1, hI1⟩ := hI.lay1 (w' := w.alloc (.map #[] 0)) (by simp) hold ⟨rfl, rfl, rfl⟩
  have hE1 : RE N (G.lay1 w.heap.size) (w.alloc (.map #[] 0)) (put N (put N env (some d) (.c (.v (.map (some w.heap.size))))) o2.dst (.c (.v (.map (some w.heap.size))))) ((a.put o1.dst (.map (some w.heap.size))).put o2.dst (.map (some w.heap.size))) := by
    rw [d1]
    exact ((hE.ext x1).put (RV.one _ rfl) _).put (RV.one _ rfl) _
  have hM1 : Mp w.heap.size [] (G.lay1 w.heap.size) (w.alloc (.map #[] 0)) := ⟨.inr rfl, #[], 0, heap_alloc_new w _, rfl⟩
  have hne : ∀ k, G.X k → k ≠ w.heap.size := fun k hk e => by have := hI.X k hk; omega
  have fin := wpIn_mono ((h w.heap.size).out (G.lay1 w.heap.size) _ _ hI1 hE1 hM1) fun e a' w' ⟨G', env', st', ks', q1, q2, q3, q4, q5⟩ => (⟨G', env', st', q1, (⟨⟨Nat.le_trans x1.size q2.size, q2.U, fun k hk => q2.X k (.inl hk), fun k hk => (q2.kept k (.inl hk) (hne k hk)).trans (hold k (hI.X k hk)), q2.live, fun i g z hi hb cs e hc => q2.shape i g z hi hb cs e (by rw [hold g (Array.getElem?_eq_some_iff.1 hc).1]; exact hc)⟩, q2.R, q2.res, ⟨q2.out.1.trans x1.out.1, q2.out.2.1.trans x1.out.2.1, q2.out.2.2.trans x1.out.2.2⟩, q2.B⟩ : Ext G w G' w'), q3, q4⟩ : ∃ G' env' st', Q e env' st' ∧ Ext G w G' w' ∧ Inv G' w' st' ∧ RE N G' w' env' a')
  refine wpIn_seq (wpIn_region (?_ : wpOpsIn (fen ρ) 7 P #[o1, o2] _ [0, 1] a w))
  rw [wpOpsIn_cons]
  unfold wpOpIn
  simp only [List.getElem?_toArray, List.getElem?_cons_zero]
  have hw1 : Region.wanted o1 (yielded #[o1, o2] a.tmps) = true := by simp [Region.wanted, g1]
  rw [if_pos hw1]
  refine wpV e1 ?_
  rw [wpOpsIn_cons]
  unfold wpOpIn
  simp only [List.getElem?_toArray, List.getElem?_cons_succ, List.getElem?_cons_zero]
  have hw2 : ∀ ts, Region.wanted o2 (yielded #[o1, o2] ts) = true := fun ts => by simp [Region.wanted, g2]
  rw [if_pos (hw2 _)]
  refine wpV e2 ?_
  exact fin⟩
end Go.Proofs.YtnafgpgbedcdnaaDoor.D.Pm
namespace Go.Proofs.YtnafgpgbedcdnaaDoor.D.Pm
set_option linter.unusedVariables false
set_option linter.unusedSimpArgs false
open Go
variable {P : Program} {T : TT} {N : Nat}
theorem wpIn_fen {ρ : Option Nat} {n m : Nat} {c : Code} {Q : Exit → Act → World → Prop} {a : Act} {w : World} (h : c.wpIn (fen ρ) n P Q a w) : c.wpIn (fen ρ) m P Q a w := fun b k cs hro hb _ => h b k cs hro hb (room_fen _)
theorem inRound_fen {ρ : Option Nat} (l : Nat) : (fen ρ).inRound l = fen (some l) := rfl
/-- a call of yield: what Y says of it -/
structure YieldOk {σ : Type} {l : Nat} (S : Side l σ) (P : Program) (Y : σ → Sto → List AV → (Bool → σ → Sto → Prop) → Prop) : Prop where
  mk ::
  mono : ∀ {s st xs} {K K' : Bool → σ → Sto → Prop}, (∀ b s' st', K b s' st' → K' b s' st') → Y s st xs K → Y s st xs K'
  out : ∀ s st xs K, Y s st xs K → ∀ G w (vs : Array Value), Inv G w st → RVs G w xs vs → S.E s G w →
    ∃ f tmps assign body, (Instr.yield l vs).run P w = .ok (.round l f tmps assign body) w ∧
      RoundIn (fen none) 6 P l f tmps assign body w fun e w' => ∃ b G' s' st', e = .returned (.bool b) ∧ K b s' st' ∧ ExtM l G w G' w' ∧ Inv G' w' st' ∧ S.E s' G' w'
/-- the operation that calls yield -/
def spY {σ : Type} (l N : Nat) (Y : σ → Sto → List AV → (Bool → σ → Sto → Prop) → Prop) (o : Oper) (env : Env) (st : Sto) (s : σ) (K : Env → Sto → σ → Prop) : Prop :=
  ∃ y xs ats rs, o.op = .call { callee := .value y, args := xs, argTypes := ats } ∧ ev env y = some (.c (.yd l)) ∧ evs env xs.toList = some rs ∧ Y s st rs fun b s' st' => K (put N env o.dst (vB b)) st' s'
theorem spY_ok {σ : Type} {l : Nat} {S : Side l σ} {Y : σ → Sto → List AV → (Bool → σ → Sto → Prop) → Prop} (hY : YieldOk S P Y) : ∀ o env st s K, spY l N Y o env st s K → OpOkE S none P N o env st s K := by
  rintro o env st s K ⟨y, xs, ats, rs, ho, hy, hxs, h⟩ G w a hI hE hM Q
  have has := evs_ok hE hxs
  obtain ⟨f, tmps, assign, body, h1, h2⟩ := hY.out s st rs _ h G w (xs.map a.eval) hI (by simpa using has) hM
  have e1 : a.eval y = .func (.yield l) #[] #[] := by
    have := (ev_ok hE hy).cel
    generalize a.eval y = u at this
    cases this; rfl
  have hrun : (execOp a.eval o).run P w = .ok (.round l f tmps assign body) w := by
    obtain ⟨dst, op, ty, pos, after, guard⟩ := o
    dsimp only at ho
    subst ho
    simp [execOp, resolve, e1, Deferred.ofValue, invoke, h1]
  refine ⟨fun _ _ => trivial, ?_⟩
  rw [sem_fen hrun (fun d e => by cases e), Oper.uponIn_round]
  refine ⟨fun h => (by cases h), h2.mono ?_⟩
  rintro e w' ⟨b, G', s', st', rfl, k1, k2, k3, k4⟩
  obtain ⟨q1, q2, q3⟩ := S.no hM
  exact ⟨G', _, st', s', k1, k2, k3, (hE.extM k2 q2 q3).put (RV.one _ rfl) _, k4⟩
/-- a function that gives its values to yield -/
structure DoesE {σ : Type} {l : Nat} (S : Side l σ) (P : Program) (f : FuncId) (as : List AV) (st : Sto) (s : σ) (K : Sto → σ → Prop) : Prop where
  mk ::
  fn : ∃ fn c, P.funcs[f]? = some fn ∧ fn.body = some c ∧ (fn.name == "runtime.NumGoroutine") = false
  out : ∀ G w vs, Inv G w st → RVs G w as vs → S.E s G w → G.B ≤ w.heap.size → Calls P f vs w fun e w' => ∃ G' st' s' v, K st' s' ∧ e = .returned v ∧ ExtM l G w G' w' ∧ Inv G' w' st' ∧ S.E s' G' w'
theorem DoesE.of (TP : TOk P T) {σ : Type} {l : Nat} {S : Side l σ} {f : FuncId} {fn : Func} {c : Code} {as : List AV} {st : Sto} {s : σ} {K : Sto → σ → Prop} (hf : P.funcs[f]? = some fn) (hb : fn.body = some c) (hn : (fn.name == "runtime.NumGoroutine") = false) (hr : fn.results = #[]) (hN : as.length ≤ fn.ntmps)
    (h : PwE S (ρ := none) P fn.ntmps c (fun e env st s => match e with | .normal => K st s | .ret => K st s | _ => False) (params 0 as) st s) : DoesE S P f as st s K := by
  refine ⟨⟨fn, c, hf, hb, hn⟩, fun G w vs hI hv hM hB => callsIn_fen.1 (callsIn_of_wp_marks (F := fen none) (n := 7) hf hb trivial ?_)⟩
  have hE : RE fn.ntmps (G.base w.heap.size) w (params 0 as) { tmps := vs ++ Array.replicate (fn.ntmps - vs.size) undef, defers := [] } := by
    refine ⟨by simp [hv.1]; omega, Nat.le_refl _, params_ok as 0 _ fun j r hj => ?_⟩
    have hlt : j < vs.size := by rw [hv.1]; exact (List.getElem?_eq_some_iff.1 hj).1
    refine ⟨vs[j], ?_, (hv.2 j r _ hj (Array.getElem?_eq_getElem hlt)).exts (base_exts G w _)⟩
    rw [Nat.zero_add, Array.getElem?_append_left hlt, Array.getElem?_eq_getElem hlt]
  obtain ⟨q1, q2, q3⟩ := S.no hM
  have hll := hI.X _ q1
  refine wpIn_mono (h.out _ w _ (hI.base _) hE (S.base hM (Nat.le_refl _))) fun e a' w' ⟨G', env', st', s', h1, h2, h3, h4, h5⟩ => ?_
  have fin : K st' s' → LeavesInM (fen none) 7 P fn a'.tmps (fun e w' => ∃ G' st' s' v, K st' s' ∧ e = .returned v ∧ ExtM l G w G' w' ∧ Inv G' w' st' ∧ S.E s' G' w') a'.defers .returning w' := by
    intro hK
    refine leaves_marks h4.defers fun w2 ⟨k1, k2, k3, k4⟩ => ?_
    have i3 := h3.sc k3 (Nat.le_of_eq k1.symm)
    have hge : ∀ d ∈ a'.defers, ∀ k, d.target = .collected k → w.heap.size ≤ k := fun d hd k hk => by
      have := h4.defers.ge d hd k hk
      rw [h2.B] at this
      exact this
    have hl2 : w2.heap[l]? = w'.heap[l]? := k4 l (fun d hd ht => by have := hge d hd l ht; omega)
    have hre : (results fn a'.tmps).run P w2 = .ok (.tuple #[]) w2 := by
      have := results_eq (P := P) (fn := fn) (tmps := a'.tmps) (w := w2) (vs := []) (by rw [hr]; rfl)
      simpa using this
    have hx : ExtM l G w (G'.base G.B) w2 := by
      refine ⟨by rw [k1]; exact h2.size, fun i hi => h2.U i hi, fun k hk => h2.X k hk, fun k hk hne => ?_, fun i hi => h2.live i hi, fun i g sz hi hb2 cs e hc => ?_, fun i hi => h2.R i hi, fun i hi hu => h2.res i hi hu, ⟨k2.1.trans h2.out.1, k2.2.1.trans h2.out.2.1, k2.2.2.trans h2.out.2.2⟩, rfl⟩
      · have hlt := hI.X k hk
        rw [k4 k (fun d hd ht => by have := hge d hd k ht; omega)]
        exact h2.kept k hk hne
      · obtain ⟨cs', q1, q2⟩ := h2.shape i g sz hi hb2 cs e hc
        exact ⟨cs', k3 _ _ _ _ q1, q2⟩
    exact ⟨_, hre, _, st', s', _, hK, rfl, hx, i3.base _, S.base (S.sc h5 k3 hl2 k1.symm) (Nat.le_trans hB hx.size)⟩
  cases e with
  | normal => exact fin h1
  | ret => exact fin h1
  | _ => exact h1.elim
/-- what goes to yield, one after another, up to the first time that yield says no -/
def runY {σ : Type} (Y : σ → Sto → List AV → (Bool → σ → Sto → Prop) → Prop) : List (List AV) → σ → Sto → (Sto → σ → Prop) → Prop
  | [], s, st, K => K st s
  | x :: xs, s, st, K => Y s st x fun b s' st' => if b = true then runY Y xs s' st' K else K st' s'
/-- an iterator: its values -/
def Iter (P : Program) (f : FuncId) (caps : List AC) (items : List (List AV)) : Prop :=
  ∀ {σ : Type} {l : Nat} {S : Side l σ} {Y : σ → Sto → List AV → (Bool → σ → Sto → Prop) → Prop}, YieldOk S P Y → ∀ {s st} {K : Sto → σ → Prop}, runY Y items s st K → DoesE S P f (.c (.yd l) :: caps.map .c) st s K
/-! ### the loop -/
def putps (N : Nat) : List Tmp → List AV → Env → Env
  | p :: ps, x :: xs, env => putps N ps xs (put N env (some p) x)
  | _, _, env => env
theorem putps_ok {G : Gh} {w : World} : ∀ (ps : List Tmp) (xs : List AV) (vs : List Value) (env : Env) (tmps : Array Value), xs.length = vs.length → (∀ (j : Nat) r v, xs[j]? = some r → vs[j]? = some v → RV G w r v) → RE N G w env { tmps := tmps, defers := [] } →
    RE N G w (putps N ps xs env) { tmps := (ps.zip vs).foldl (fun t (p, v) => t.setIfInBounds p v) tmps, defers := [] }
  | [], xs, vs, env, tmps, hl, h, hE => by cases xs <;> exact hE
  | p :: ps, [], [], env, tmps, hl, h, hE => hE
  | p :: ps, x :: xs, v :: vs, env, tmps, hl, h, hE => by
    have := hE.put (h 0 x v rfl rfl) (some p)
    exact putps_ok ps xs vs _ _ (by simpa using hl) (fun j r v h1 h2 => h (j + 1) r v h1 h2) this
def jumpQ (Q : Exit → Env → Sto → Prop) (env : Env) (st : Sto) : Option Code → Prop
  | none => Q .normal env st
  | some .ret => Q .ret env st
  | some (.exit i) => Q (.exit i) env st
  | some (.goto t) => Q (.goto t) env st
  | _ => False
/-- the rounds of a loop -/
def rounds (P : Program) (N l : Nat) (ps : List Tmp) (assign body : Code) (Q : Exit → Env → Sto → Prop) (env : Env) : List (List AV) → Sto → Prop
  | [], st => Q .normal env st
  | x :: xs, st => x.length = ps.length ∧ Pw (ρ := some l) P N assign (fun e env1 st1 => e = .normal ∧ Pw (ρ := some l) P N body (fun e _ st' => match e with
      | .normal => rounds P N l ps assign body Q env xs st'
      | .ret => Q .ret env st'
      | .exit i => Q (.exit i) env st'
      | .goto t => Q (.goto t) env st'
      | _ => False) env1 st1) (putps N ps x env) st
/-- what the loop says of yield -/
def Yo (P : Program) (N l : Nat) (ps : List Tmp) (assign body : Code) (env : Env) (s : Option Code) (st : Sto) (x : List AV) (K : Bool → Option Code → Sto → Prop) : Prop :=
  s = none ∧ x.length = ps.length ∧ Pw (ρ := some l) P N assign (fun e env1 st1 => e = .normal ∧ Pw (ρ := some l) P N body (fun e _ st' => match e with
      | .normal => K true none st'
      | .ret => K false (some .ret) st'
      | .exit i => K false (some (.exit i)) st'
      | .goto t => K false (some (.goto t)) st'
      | _ => False) env1 st1) (putps N ps x env) st
theorem rounds_run {l : Nat} {ps : List Tmp} {assign body : Code} {Q : Exit → Env → Sto → Prop} {env : Env} : ∀ {items : List (List AV)} {st : Sto}, rounds P N l ps assign body Q env items st → runY (Yo P N l ps assign body env) items none st (fun st s => jumpQ Q env st s)
  | [], st, h => h
  | x :: xs, st, ⟨h1, h2⟩ => ⟨rfl, h1, h2.mono fun e env1 st1 ⟨he, h3⟩ => ⟨he, h3.mono fun e env2 st2 h4 => by
      cases e with
      | normal => show if true = true then _ else _; rw [if_pos rfl]; exact rounds_run h4
      | ret => show if false = true then _ else _; rw [if_neg (by simp)]; exact h4
      | exit i => show if false = true then _ else _; rw [if_neg (by simp)]; exact h4
      | goto t => show if false = true then _ else _; rw [if_neg (by simp)]; exact h4
      | _ => exact h4⟩⟩
/-- the loop's record, beside the iterator -/
def lside (N l : Nat) (env : Env) (tmps : Array Value) (rec : LoopState → Option Code → Loop) : Side l (Option Code) where
  E := fun s G w => G.X l ∧ w.heap[l]? = some (.loop (rec (if s.isNone then .ready else .done) s)) ∧ RE N G w env { tmps := tmps, defers := [] }
  ext := fun ⟨h1, h2, h3⟩ x => ⟨x.X _ h1, (x.kept _ h1).trans h2, h3.ext x⟩
  base := fun {s G w c} ⟨h1, h2, h3⟩ hc => ⟨h1, h2, ⟨h3.size, hc, fun t r hl => let ⟨v, a, b⟩ := h3.at_ t r hl; ⟨v, a, b.exts (base_exts G w c)⟩⟩⟩
  sc := fun {s G w w'} ⟨h1, h2, h3⟩ x hl hs => ⟨h1, hl.trans h2, ⟨h3.size, Nat.le_trans h3.defers.B (Nat.le_of_eq hs), fun t r hl => let ⟨v, a, b⟩ := h3.at_ t r hl; ⟨v, a, b.sc x⟩⟩⟩
  no := fun {s G w} h => ⟨h.1, (fun cs e f hc => by rw [h.2.1] at hc; cases hc), (fun hc => by rw [h.2.1] at hc; cases hc)⟩
theorem putObj_sc {w : World} {l : Nat} {o o' : Obj} (h : w.heap[l]? = some o) (hn : ∀ (cs : Array Value) (e : TypeId) (f : Nat × Nat), o ≠ .cells cs e f) : SC w (w.putObj l o') := fun k cs e f hk => by
  rw [World.putObj_heap_other (fun e => by subst e; rw [h] at hk; cases hk; exact hn _ _ _ rfl)]; exact hk
theorem putObj_extM {G : Gh} {w : World} {l : Nat} {o o' : Obj} (h : w.heap[l]? = some o) (hn : ∀ (cs : Array Value) (e : TypeId) (f : Nat × Nat), o ≠ .cells cs e f) : ExtM l G w G (w.putObj l o') :=
  ⟨Nat.le_of_eq (World.putObj_size).symm, fun _ h => h, fun _ h => h, fun k hk hne => World.putObj_heap_other hne, fun _ _ => .inr rfl, fun _ _ _ _ _ cs e hc => ⟨cs, putObj_sc h hn _ _ _ _ hc, rfl⟩, fun _ h => h, fun _ _ h => h, ⟨rfl, rfl, rfl⟩, rfl⟩
theorem lside_ok {l : Nat} {env : Env} {tmps : Array Value} {fn : FuncId} {ps : Array Tmp} {assign body : Code} {D : Nat} :
    YieldOk (lside N l env tmps (fun st pe => { state := st, pending := pe, fn, tmps, params := ps, assign, body, defers := D })) P (Yo P N l ps.toList assign body env) := by
  refine ⟨fun hk ⟨h1, h2, h3⟩ => ⟨h1, h2, h3.mono fun e env1 st1 ⟨he, h4⟩ => ⟨he, h4.mono fun e env2 st2 h5 => ?_⟩⟩, ?_⟩
  · cases e <;> first | exact hk _ _ _ h5 | exact h5
  rintro s st xs K ⟨rfl, hlen, h⟩ G w vs hI hv ⟨hX, hL, hE⟩
  have hnl : ∀ (r : Loop) (cs : Array Value) (e : TypeId) (f : Nat × Nat), Obj.loop r ≠ .cells cs e f := fun _ _ _ _ h => by cases h
  refine ⟨fn, _, assign, body, run_yield hL (by rw [hv.1, hlen, Array.length_toList]), roundIn_of_wpIn trivial ?_⟩
  have hz : (ps.zip vs).foldl (fun t (p, v) => t.setIfInBounds p v) tmps = (ps.toList.zip vs.toList).foldl (fun t (p, v) => t.setIfInBounds p v) tmps := by
    rw [← Array.foldl_toList, Array.toList_zip]
  have hE1 : RE N G w (putps N ps.toList xs env) { tmps := (ps.zip vs).foldl (fun t (p, v) => t.setIfInBounds p v) tmps, defers := [] } := by
    rw [hz]
    exact putps_ok ps.toList xs vs.toList env tmps (by have := hv.1; simp; omega) (fun j r v a b => hv.2 j r v a (by rw [← Array.getElem?_toList]; exact b)) hE
  refine wpIn_mono (wpIn_fen (h.out G w _ hI hE1)) fun e a1 w1 ⟨G1, env1, st1, ⟨he, hb⟩, x1, i1, e1⟩ => ?_
  subst he
  have hX1 := x1.X _ hX
  have hL1 := (x1.kept _ hX).trans hL
  refine ⟨_, run_beginRound hL1 rfl, ?_⟩
  obtain ⟨w2, hw2⟩ : ∃ w2, w1.putObj l (.loop { state := .busy, pending := none, fn, tmps, params := ps, assign, body, defers := D }) = w2 := ⟨_, rfl⟩
  have hlt : l < w1.heap.size := (Array.getElem?_eq_some_iff.1 hL1).1
  have x2 : ExtM l G1 w1 G1 w2 := by rw [← hw2]; exact putObj_extM hL1 (hnl _)
  have s2 : SC w1 w2 := by rw [← hw2]; exact putObj_sc hL1 (hnl _)
  have hL2 : w2.heap[l]? = some (.loop { state := .busy, pending := none, fn, tmps, params := ps, assign, body, defers := D }) := by rw [← hw2]; exact World.putObj_heap_same hlt
  have no1 : NoCells w1 l := fun cs e f hc => by rw [hL1] at hc; cases hc
  have i2 := i1.sc s2 (by rw [← hw2]; exact Nat.le_of_eq World.putObj_size.symm)
  have e2 := e1.extM x2 no1 (fun hc => by rw [hL1] at hc; cases hc)
  have o2 := (hE.ext x1).extM x2 no1 (fun hc => by rw [hL1] at hc; cases hc)
  show body.wpIn (fen (some l)) 6 P (roundPost P l _) a1 (w1.putObj l (.loop { state := .busy, pending := none, fn, tmps, params := ps, assign, body, defers := D }))
  rw [hw2]
  refine wpIn_mono (wpIn_fen (hb.out G1 w2 a1 i2 e2)) fun e a3 w3 ⟨G3, env3, st3, hq, x3, i3, e3⟩ => ?_
  have hL3 := (x3.kept _ hX1).trans hL2
  have hlt3 : l < w3.heap.size := (Array.getElem?_eq_some_iff.1 hL3).1
  have o3 := o2.ext x3
  have done : ∀ (j : Option Code), K j.isNone j st3 → ∃ v w', (Instr.endRound l j).run P w3 = .ok v w' ∧ ∃ b G' s' st', Ending.returned v = .returned (.bool b) ∧ K b s' st' ∧ ExtM l G w G' w' ∧ Inv G' w' st' ∧ (lside N l env tmps (fun st pe => { state := st, pending := pe, fn, tmps, params := ps, assign, body, defers := D })).E s' G' w' := by
    intro j hK
    have x4 : ∀ o', ExtM l G3 w3 G3 (w3.putObj l o') := fun o' => putObj_extM hL3 (hnl _)
    have no3 : NoCells w3 l := fun cs e f hc => by rw [hL3] at hc; cases hc
    refine ⟨_, _, run_endRound j hL3, j.isNone, G3, j, st3, rfl, hK, ((((ExtM.of x1).trans x2).trans (.of x3)).trans (x4 _)), i3.sc (putObj_sc hL3 (hnl _)) (Nat.le_of_eq World.putObj_size.symm), x3.X _ hX1, World.putObj_heap_same hlt3, o3.extM (x4 _) no3 (fun hc => by rw [hL3] at hc; cases hc)⟩
  cases e with
  | normal => exact done none hq
  | ret => exact done (some .ret) hq
  | exit i => exact done (some (.exit i)) hq
  | goto t => exact done (some (.goto t)) hq
  | _ => exact hq.elim
end Go.Proofs.YtnafgpgbedcdnaaDoor.D.Pm
namespace Go.Proofs.YtnafgpgbedcdnaaDoor.D.Pm
set_option linter.unusedVariables false
set_option linter.unusedSimpArgs false
open Go
open Go.RowKit
variable {P : Program} {T : TT} {N : Nat}
/-- two blocks more: they no longer belong to anyone -/
def Gh.lay (G : Gh) (a b : Nat) : Gh := ⟨G.U, G.R, G.b, fun k => G.X k ∨ k = a ∨ k = b, G.B⟩
theorem Inv.lay {G : Gh} {w w' : World} {st : Sto} (hI : Inv G w st) (hs : w'.heap.size = w.heap.size + 2) (hk : ∀ k, k < w.heap.size → w'.heap[k]? = w.heap[k]?) (ho : w'.os = w.os ∧ w'.tape = w.tape ∧ w'.output = w.output) :
    Ext G w (G.lay w.heap.size (w.heap.size + 1)) w' ∧ Inv (G.lay w.heap.size (w.heap.size + 1)) w' st := by
  have x : Ext G w (G.lay w.heap.size (w.heap.size + 1)) w' := ⟨⟨by omega, fun _ h => h, fun _ h => .inl h, fun k h => hk k (hI.X k h), fun _ _ => .inr rfl, fun i g z hi hb cs e hc => ⟨cs, by rw [hk g (Array.getElem?_eq_some_iff.1 hc).1]; exact hc, rfl⟩⟩, fun _ h => h, fun _ _ h => h, ho, rfl⟩
  refine ⟨x, fun i o ho => ?_, fun i g sz hb => ?_, hI.inj, fun k h => ?_, hI.new⟩
  · obtain ⟨g, sz, cs, e, a, b, c, d, f, k⟩ := hI.obj i o ho
    exact ⟨g, sz, cs, e, a, b, by rw [hk g (Array.getElem?_eq_some_iff.1 c).1]; exact c, d, f, fun j x' v p q => (k j x' v p q).ext x⟩
  · obtain ⟨a, b, c⟩ := hI.lt i g sz hb
    exact ⟨a, by omega, fun hX => by rcases hX with hX | hX | hX; exact c hX; all_goals omega⟩
  · rcases h with h | h | h
    · have := hI.X k h; omega
    · omega
    · omega
/-- **a range over a function** -/
theorem Pw.rangeFunc {g : Operand} {ps : Array Tmp} {assign body : Code} {f : FuncId} {caps : List AC} {items : List (List AV)} {Q : Exit → Env → Sto → Prop} {env : Env} {st : Sto} (hg : ev env g = some (.c (.fn f caps))) (hit : Iter P f caps items)
    (h : ∀ l, rounds P N l ps.toList assign body Q env items st) : Pw (ρ := none) P N (.rangeFunc g ps assign body) Q env st := ⟨fun G w a hI hE => by
  refine wpIn_rangeFunc fun fn _ => ?_
  obtain ⟨rec, hrec⟩ : ∃ rec : LoopState → Option Code → Loop, rec = fun st pe => { state := st, pending := pe, fn, tmps := a.tmps, params := ps, assign, body, defers := w.heap.size } := ⟨_, rfl⟩
  obtain ⟨W1, hW1⟩ : ∃ W1, (w.alloc (.deferred (some []))).alloc (.loop (rec .ready none)) = W1 := ⟨_, rfl⟩
  have hold : ∀ k, k < w.heap.size → W1.heap[k]? = w.heap[k]? := fun k hk => by
    rw [← hW1]; exact (Below.heap_alloc _ _ k (by simp; omega)).trans (Below.heap_alloc _ _ k hk)
  have hs1 : W1.heap.size = w.heap.size + 2 := by rw [← hW1]; simp
  have hL1 : W1.heap[w.heap.size + 1]? = some (.loop (rec .ready none)) := by
    rw [← hW1]; have := heap_alloc_new (w.alloc (.deferred (some []))) (.loop (rec .ready none)); simpa using this
  have hD1 : W1.heap[w.heap.size]? = some (.deferred (some [])) := by
    rw [← hW1]; exact (Below.heap_alloc _ _ _ (by simp)).trans (heap_alloc_new w _)
  obtain ⟨x1, i1⟩ := hI.lay hs1 hold (by rw [← hW1]; exact ⟨rfl, rfl, rfl⟩)
  have hcv := (ev_ok hE hg).cel
  generalize hv : a.eval g = u at hcv
  cases hcv with
  | fn _ _ vs hl cv hc hcr =>
    have hM1 : (lside N (w.heap.size + 1) env a.tmps rec).E none (G.lay w.heap.size (w.heap.size + 1)) W1 := ⟨.inr (.inr rfl), hL1, ⟨hE.size, by
      have := hE.defers.B
      show G.B ≤ W1.heap.size
      omega, (hE.ext x1).at_⟩⟩
    have hd := hit (S := lside N (w.heap.size + 1) env a.tmps rec) (Y := Yo P N (w.heap.size + 1) ps.toList assign body env) (by rw [hrec]; exact lside_ok) (rounds_run (h (w.heap.size + 1)))
    obtain ⟨fn', code, hf1, hf2, hf3⟩ := hd.fn
    refine ⟨w.heap.size + 1, [{ target := .collected w.heap.size, args := #[] }], W1, { target := .fn (.func f) vs, args := #[.func (.yield (w.heap.size + 1)) #[] #[]] }, W1, f,
      #[.func (.yield (w.heap.size + 1)) #[] #[]] ++ vs, W1, ?_, ?_, fun _ _ => trivial, ?_, fun h => (by cases h), ?_⟩
    · rw [← hW1, hrec]; exact run_enterLoop_outer _ _ _ _ _
    · simp only [resolve, hv]
      simp [go_sem]
    · have hf4 : ¬ fn'.name = "runtime.NumGoroutine" := by simpa using hf3
      simp [invoke, callFunc, hf1, hf2, hf4]
    · refine callsIn_fen.2 ((hd.out _ W1 _ i1 ⟨by simp [hl]; omega, fun j r v hj hvj => ?_⟩ hM1 ?_).mono ?_)
      · match j with
        | 0 =>
          simp at hj
          rw [Array.getElem?_append_left (by simp)] at hvj
          simp at hvj
          subst hj; subst hvj
          exact .c _ _ (.yd _)
        | j + 1 =>
          rw [Array.getElem?_append_right (by simp)] at hvj
          simp at hvj
          rw [List.getElem?_cons_succ, List.getElem?_map] at hj
          cases hcj : caps[j]? with
          | none => rw [hcj] at hj; cases hj
          | some c =>
            rw [hcj] at hj
            cases hj
            have := hc _ c hcj
            rw [this] at hvj
            cases hvj
            exact .c _ _ ((hcr _ c hcj).ext x1)
      · have := hE.defers.B
        show G.B ≤ W1.heap.size
        omega
      · rintro e w3 ⟨G3, st3, s3, v, hK, rfl, x3, i3, hX3, hL3, hE3⟩
        have hj := run_endLoop (P := P) hL3 (by rw [hrec]; cases s3 <;> simp)
        obtain ⟨w4, hw4⟩ : ∃ w4, w3.putObj (w.heap.size + 1) (.loop { rec (if s3.isNone then .ready else .done) s3 with state := .exhausted }) = w4 := ⟨_, rfl⟩
        have hnl : ∀ (r : Loop) (cs : Array Value) (e : TypeId) (f : Nat × Nat), Obj.loop r ≠ .cells cs e f := fun _ _ _ _ h => by cases h
        have x4 : ExtM (w.heap.size + 1) G3 w3 G3 w4 := by rw [← hw4]; exact putObj_extM hL3 (hnl _)
        have s4 : SC w3 w4 := by rw [← hw4]; exact putObj_sc hL3 (hnl _)
        have i4 := i3.sc s4 (by rw [← hw4]; exact Nat.le_of_eq World.putObj_size.symm)
        have no3 : NoCells w3 (w.heap.size + 1) := fun cs e f hc => by rw [hL3] at hc; cases hc
        have e4 := hE3.extM x4 no3 (fun hc => by rw [hL3] at hc; cases hc)
        have xM := x3.trans x4
        have xx : Ext G w G3 w4 := by
          refine ⟨⟨Nat.le_trans x1.size xM.size, fun i hi => xM.U i (x1.U i hi), fun k hk => xM.X k (x1.X k hk), fun k hk => ?_, fun i hi => ?_, fun i g z hi hb cs e hc => ?_⟩, fun i hi => xM.R i (x1.R i hi), fun i hi hu => x1.res i hi (xM.res i (x1.R i hi) hu), ⟨xM.out.1.trans x1.out.1, xM.out.2.1.trans x1.out.2.1, xM.out.2.2.trans x1.out.2.2⟩, xM.B⟩
          · have := hI.X k hk
            rw [xM.kept k (x1.X k hk) (by omega)]; exact x1.kept k hk
          · exact xM.live i hi
          · exact xM.shape i g z hi hb cs e (by rw [hold g (Array.getElem?_eq_some_iff.1 hc).1]; exact hc)
        have hDm : w4.heap[w.heap.size]? = some (.deferred (some [])) := (xM.kept _ (.inr (.inl rfl)) (by omega)).trans hD1
        have hm : Marks G3 w4 ({ target := .collected w.heap.size, args := #[] } :: a.defers) := by
          refine ⟨⟨w.heap.size, rfl, ?_, xM.X _ (.inr (.inl rfl)), hDm, fun d' hd' e => ?_⟩, hE.defers.exts xx.toExtS xx.B⟩
          · rw [xx.B]; exact hE.defers.B
          · exact Nat.lt_irrefl _ (hE.defers.lt d' hd' _ e)
        have eE : RE N G3 w4 env { a with defers := [{ target := .collected w.heap.size, args := #[] }] ++ a.defers } := ⟨hE.size, hm, e4.at_⟩
        have hp : (rec (if s3.isNone = true then .ready else .done) s3).pending = s3 := by rw [hrec]
        refine ⟨s3, w4, hj.trans (by rw [hw4, hp]), ?_⟩
        clear hw4 hp hj hL3
        cases s3 with
        | none => exact ⟨G3, env, st3, hK, xx, i4, eE⟩
        | some c =>
          cases c with
          | ret => exact wpIn_ret ⟨G3, env, st3, hK, xx, i4, eE⟩
          | exit i => exact wpIn_exit ⟨G3, env, st3, hK, xx, i4, eE⟩
          | goto t => exact wpIn_goto ⟨G3, env, st3, hK, xx, i4, eE⟩
          | _ => exact hK.elim⟩
theorem Pw.gen {ρ : Option Nat} {c : Code} {Q : Exit → Env → Sto → Prop} {env : Env} {st : Sto} (h : ∀ S, S = st → Pw (ρ := ρ) P N c Q env S) : Pw (ρ := ρ) P N c Q env st := h _ rfl
end Go.Proofs.YtnafgpgbedcdnaaDoor.D.Pm
namespace Go.Proofs.YtnafgpgbedcdnaaDoor.D.Pm
set_option linter.unusedVariables false
set_option linter.unusedSimpArgs false
open Go
open Go.RowKit
variable {P : Program} {T : TT} {N : Nat}
/-- **a range over a function**, where the iterator has its own say -/
theorem Pw.rangeFuncD {g : Operand} {ps : Array Tmp} {assign body : Code} {f : FuncId} {caps : List AC} {Q : Exit → Env → Sto → Prop} {env : Env} {st : Sto} (hg : ev env g = some (.c (.fn f caps))) 
    (h : ∀ (l : Nat) (S : Side l (Option Code)), YieldOk S P (Yo P N l ps.toList assign body env) → DoesE S P f (.c (.yd l) :: caps.map .c) st none fun st s => jumpQ Q env st s) : Pw (ρ := none) P N (.rangeFunc g ps assign body) Q env st := ⟨fun G w a hI hE => by
  refine wpIn_rangeFunc fun fn _ => ?_
  obtain ⟨rec, hrec⟩ : ∃ rec : LoopState → Option Code → Loop, rec = fun st pe => { state := st, pending := pe, fn, tmps := a.tmps, params := ps, assign, body, defers := w.heap.size } := ⟨_, rfl⟩
  obtain ⟨W1, hW1⟩ : ∃ W1, (w.alloc (.deferred (some []))).alloc (.loop (rec .ready none)) = W1 := ⟨_, rfl⟩
  have hold : ∀ k, k < w.heap.size → W1.heap[k]? = w.heap[k]? := fun k hk => by
    rw [← hW1]; exact (Below.heap_alloc _ _ k (by simp; omega)).trans (Below.heap_alloc _ _ k hk)
  have hs1 : W1.heap.size = w.heap.size + 2 := by rw [← hW1]; simp
  have hL1 : W1.heap[w.heap.size + 1]? = some (.loop (rec .ready none)) := by
    rw [← hW1]; have := heap_alloc_new (w.alloc (.deferred (some []))) (.loop (rec .ready none)); simpa using this
  have hD1 : W1.heap[w.heap.size]? = some (.deferred (some [])) := by
    rw [← hW1]; exact (Below.heap_alloc _ _ _ (by simp)).trans (heap_alloc_new w _)
  obtain ⟨x1, i1⟩ := hI.lay hs1 hold (by rw [← hW1]; exact ⟨rfl, rfl, rfl⟩)
  have hcv := (ev_ok hE hg).cel
  generalize hv : a.eval g = u at hcv
  cases hcv with
  | fn _ _ vs hl cv hc hcr =>
    have hM1 : (lside N (w.heap.size + 1) env a.tmps rec).E none (G.lay w.heap.size (w.heap.size + 1)) W1 := ⟨.inr (.inr rfl), hL1, ⟨hE.size, by
      have := hE.defers.B
      show G.B ≤ W1.heap.size
      omega, (hE.ext x1).at_⟩⟩
    have hd := h (w.heap.size + 1) (lside N (w.heap.size + 1) env a.tmps rec) (by rw [hrec]; exact lside_ok)
    obtain ⟨fn', code, hf1, hf2, hf3⟩ := hd.fn
    refine ⟨w.heap.size + 1, [{ target := .collected w.heap.size, args := #[] }], W1, { target := .fn (.func f) vs, args := #[.func (.yield (w.heap.size + 1)) #[] #[]] }, W1, f,
      #[.func (.yield (w.heap.size + 1)) #[] #[]] ++ vs, W1, ?_, ?_, fun _ _ => trivial, ?_, fun h => (by cases h), ?_⟩
    · rw [← hW1, hrec]; exact run_enterLoop_outer _ _ _ _ _
    · simp only [resolve, hv]
      simp [go_sem]
    · have hf4 : ¬ fn'.name = "runtime.NumGoroutine" := by simpa using hf3
      simp [invoke, callFunc, hf1, hf2, hf4]
    · refine callsIn_fen.2 ((hd.out _ W1 _ i1 ⟨by simp [hl]; omega, fun j r v hj hvj => ?_⟩ hM1 ?_).mono ?_)
      · match j with
        | 0 =>
          simp at hj
          rw [Array.getElem?_append_left (by simp)] at hvj
          simp at hvj
          subst hj; subst hvj
          exact .c _ _ (.yd _)
        | j + 1 =>
          rw [Array.getElem?_append_right (by simp)] at hvj
          simp at hvj
          rw [List.getElem?_cons_succ, List.getElem?_map] at hj
          cases hcj : caps[j]? with
          | none => rw [hcj] at hj; cases hj
          | some c =>
            rw [hcj] at hj
            cases hj
            have := hc _ c hcj
            rw [this] at hvj
            cases hvj
            exact .c _ _ ((hcr _ c hcj).ext x1)
      · have := hE.defers.B
        show G.B ≤ W1.heap.size
        omega
      · rintro e w3 ⟨G3, st3, s3, v, hK, rfl, x3, i3, hX3, hL3, hE3⟩
        have hj := run_endLoop (P := P) hL3 (by rw [hrec]; cases s3 <;> simp)
        obtain ⟨w4, hw4⟩ : ∃ w4, w3.putObj (w.heap.size + 1) (.loop { rec (if s3.isNone then .ready else .done) s3 with state := .exhausted }) = w4 := ⟨_, rfl⟩
        have hnl : ∀ (r : Loop) (cs : Array Value) (e : TypeId) (f : Nat × Nat), Obj.loop r ≠ .cells cs e f := fun _ _ _ _ h => by cases h
        have x4 : ExtM (w.heap.size + 1) G3 w3 G3 w4 := by rw [← hw4]; exact putObj_extM hL3 (hnl _)
        have s4 : SC w3 w4 := by rw [← hw4]; exact putObj_sc hL3 (hnl _)
        have i4 := i3.sc s4 (by rw [← hw4]; exact Nat.le_of_eq World.putObj_size.symm)
        have no3 : NoCells w3 (w.heap.size + 1) := fun cs e f hc => by rw [hL3] at hc; cases hc
        have e4 := hE3.extM x4 no3 (fun hc => by rw [hL3] at hc; cases hc)
        have xM := x3.trans x4
        have xx : Ext G w G3 w4 := by
          refine ⟨⟨Nat.le_trans x1.size xM.size, fun i hi => xM.U i (x1.U i hi), fun k hk => xM.X k (x1.X k hk), fun k hk => ?_, fun i hi => ?_, fun i g z hi hb cs e hc => ?_⟩, fun i hi => xM.R i (x1.R i hi), fun i hi hu => x1.res i hi (xM.res i (x1.R i hi) hu), ⟨xM.out.1.trans x1.out.1, xM.out.2.1.trans x1.out.2.1, xM.out.2.2.trans x1.out.2.2⟩, xM.B⟩
          · have := hI.X k hk
            rw [xM.kept k (x1.X k hk) (by omega)]; exact x1.kept k hk
          · exact xM.live i hi
          · exact xM.shape i g z hi hb cs e (by rw [hold g (Array.getElem?_eq_some_iff.1 hc).1]; exact hc)
        have hDm : w4.heap[w.heap.size]? = some (.deferred (some [])) := (xM.kept _ (.inr (.inl rfl)) (by omega)).trans hD1
        have hm : Marks G3 w4 ({ target := .collected w.heap.size, args := #[] } :: a.defers) := by
          refine ⟨⟨w.heap.size, rfl, ?_, xM.X _ (.inr (.inl rfl)), hDm, fun d' hd' e => ?_⟩, hE.defers.exts xx.toExtS xx.B⟩
          · rw [xx.B]; exact hE.defers.B
          · exact Nat.lt_irrefl _ (hE.defers.lt d' hd' _ e)
        have eE : RE N G3 w4 env { a with defers := [{ target := .collected w.heap.size, args := #[] }] ++ a.defers } := ⟨hE.size, hm, e4.at_⟩
        have hp : (rec (if s3.isNone = true then .ready else .done) s3).pending = s3 := by rw [hrec]
        refine ⟨s3, w4, hj.trans (by rw [hw4, hp]), ?_⟩
        clear hw4 hp hj hL3
        cases s3 with
        | none => exact ⟨G3, env, st3, hK, xx, i4, eE⟩
        | some c =>
          cases c with
          | ret => exact wpIn_ret ⟨G3, env, st3, hK, xx, i4, eE⟩
          | exit i => exact wpIn_exit ⟨G3, env, st3, hK, xx, i4, eE⟩
          | goto t => exact wpIn_goto ⟨G3, env, st3, hK, xx, i4, eE⟩
          | _ => exact hK.elim⟩
/-- what goes to yield, one after another; all the while I holds of the memory -/
def runI {σ : Type} (I : Sto → Prop) (Y : σ → Sto → List AV → (Bool → σ → Sto → Prop) → Prop) : List (List AV) → σ → Sto → (Sto → σ → Prop) → Prop
  | [], s, st, K => I st ∧ K st s
  | x :: xs, s, st, K => I st ∧ Y s st x fun b s' st' => if b = true then runI I Y xs s' st' K else K st' s'
/-- an iterator that reads memory -/
def IterI (P : Program) (f : FuncId) (caps : List AC) (I : Sto → Prop) (items : List (List AV)) : Prop :=
  ∀ {σ : Type} {l : Nat} {S : Side l σ} {Y : σ → Sto → List AV → (Bool → σ → Sto → Prop) → Prop}, YieldOk S P Y → ∀ {s st} {K : Sto → σ → Prop}, runI I Y items s st K → DoesE S P f (.c (.yd l) :: caps.map .c) st s K
/-- the rounds of a loop, while I holds -/
def roundsI (P : Program) (N l : Nat) (ps : List Tmp) (assign body : Code) (I : Sto → Prop) (Q : Exit → Env → Sto → Prop) (env : Env) : List (List AV) → Sto → Prop
  | [], st => I st ∧ Q .normal env st
  | x :: xs, st => I st ∧ x.length = ps.length ∧ Pw (ρ := some l) P N assign (fun e env1 st1 => e = .normal ∧ Pw (ρ := some l) P N body (fun e _ st' => match e with
      | .normal => roundsI P N l ps assign body I Q env xs st'
      | .ret => Q .ret env st'
      | .exit i => Q (.exit i) env st'
      | .goto t => Q (.goto t) env st'
      | _ => False) env1 st1) (putps N ps x env) st
theorem rounds_runI {l : Nat} {ps : List Tmp} {assign body : Code} {I : Sto → Prop} {Q : Exit → Env → Sto → Prop} {env : Env} : ∀ {items : List (List AV)} {st : Sto}, roundsI P N l ps assign body I Q env items st → runI I (Yo P N l ps assign body env) items none st (fun st s => jumpQ Q env st s)
  | [], st, h => h
  | x :: xs, st, ⟨h0, h1, h2⟩ => ⟨h0, rfl, h1, h2.mono fun e env1 st1 ⟨he, h3⟩ => ⟨he, h3.mono fun e env2 st2 h4 => by
      cases e with
      | normal => show if true = true then _ else _; rw [if_pos rfl]; exact rounds_runI h4
      | ret => show if false = true then _ else _; rw [if_neg (by simp)]; exact h4
      | exit i => show if false = true then _ else _; rw [if_neg (by simp)]; exact h4
      | goto t => show if false = true then _ else _; rw [if_neg (by simp)]; exact h4
      | _ => exact h4⟩⟩
theorem Pw.rangeFuncI {g : Operand} {ps : Array Tmp} {assign body : Code} {f : FuncId} {caps : List AC} {I : Sto → Prop} {items : List (List AV)} {Q : Exit → Env → Sto → Prop} {env : Env} {st : Sto} (hg : ev env g = some (.c (.fn f caps))) (hit : IterI P f caps I items)
    (h : ∀ l, roundsI P N l ps.toList assign body I Q env items st) : Pw (ρ := none) P N (.rangeFunc g ps assign body) Q env st :=
  Pw.rangeFuncD hg fun l S hY => hit hY (rounds_runI (h l))
theorem roundsI_of {α : Type} (f : α → List AV) {l : Nat} {ps : List Tmp} {assign body : Code} {I : Sto → Prop} {Q : Exit → Env → Sto → Prop} {env : Env} (J : List α → Sto → Prop)
    (hI : ∀ r st, J r st → I st)
    (h0 : ∀ st, J [] st → Q .normal env st)
    (h1 : ∀ x r st, J (x :: r) st → (f x).length = ps.length ∧ Pw (ρ := some l) P N assign (fun e env1 st1 => e = .normal ∧ Pw (ρ := some l) P N body (fun e _ st' => match e with
      | .normal => J r st'
      | .ret => Q .ret env st'
      | .exit i => Q (.exit i) env st'
      | .goto t => Q (.goto t) env st'
      | _ => False) env1 st1) (putps N ps (f x) env) st) : ∀ (r : List α) (st : Sto), J r st → roundsI P N l ps assign body I Q env (r.map f) st
  | [], st, h => ⟨hI _ _ h, h0 st h⟩
  | x :: r, st, h => by
    obtain ⟨a, b⟩ := h1 x r st h
    refine ⟨hI _ _ h, a, b.mono fun e env1 st1 ⟨he, h3⟩ => ⟨he, h3.mono fun e env2 st2 h4 => ?_⟩⟩
    cases e with
    | normal => exact roundsI_of f J hI h0 h1 r _ h4
    | _ => exact h4
end Go.Proofs.YtnafgpgbedcdnaaDoor.D.Pm
namespace Go.Proofs.YtnafgpgbedcdnaaDoor.D.Pm
set_option linter.unusedVariables false
set_option linter.unusedSimpArgs false
open Go
variable {P : Program}
/-- a cell that nothing but new objects tells of -/
def plain (s : Sto) : AC → Prop
  | .v _ => True
  | .arr id _ _ => ∃ o, s id = some o
  | _ => False
def plainO (s : Sto) : Prop := ∀ i o, s i = some o → ∀ (j : Nat) c, o.cells[j]? = some c → plain s c
def plainV (s : Sto) : AV → Prop
  | .c c => plain s c
  | .g cs => ∀ (j : Nat) c, cs[j]? = some c → plain s c
  | .t _ => False
def beside (st s : Sto) : Sto := fun i => match st i with | some o => some o | none => s i
def Gh.back (G G1 : Gh) (st : Sto) : Gh :=
  ⟨G1.U, G1.R, fun i => if (st i).isSome then G.b i else G1.b i, fun k => G1.X k ∧ ¬ ∃ i o sz, st i = some o ∧ G.b i = some (k, sz), G1.B⟩
theorem Does.lend {f : FuncId} {as as' : List AV} {st : Sto} {K : AV → Sto → Prop} (hl : as'.length = as.length) (hv : ∀ (j : Nat) r r', as[j]? = some r → as'[j]? = some r' → FV (fun _ => true) st r r')
    (h : Does P f as' (fun _ => none) fun r s => plainV s r ∧ plainO s ∧ ((∀ i o, s i = some o → st i = none) → K r (beside st s))) : Does P f as st K := by
  refine ⟨h.fn, fun G w vs hI hr => ?_⟩
  have hI0 : Inv (G.frz (fun _ => true) st w) w (fun _ => none) := hI.frz _ (fun id o h => by cases h)
  have h2 := h.out _ w vs hI0 ⟨by rw [hr.1, hl], fun j r' v h1 h2 => by
    have hlt : j < as.length := by rw [← hl]; exact (List.getElem?_eq_some_iff.1 h1).1
    exact (hv j _ r' (List.getElem?_eq_getElem hlt) h1).ok hI (hr.2 j _ v (List.getElem?_eq_getElem hlt) h2)⟩
  refine h2.mono fun e w' ⟨G1, r, s, v, ⟨p1, p2, hK⟩, he, x, I1, hrv⟩ => ?_
  have fb : ∀ i, (G.frz (fun _ => true) st w).b i = none := fun i => by show (if true = true then none else G.b i) = none; rw [if_pos rfl]
  have old : ∀ i, G.U i → G1.b i = none := fun i hu => by
    rcases x.live i hu with h | h
    · exact h
    · rw [h]; exact fb i
  have hfx : ∀ i o g sz, st i = some o → G.b i = some (g, sz) → (G.frz (fun _ => true) st w).X g := fun i o g sz h1 h2 => .inr ⟨i, o, sz, rfl, h1, h2⟩
  have new : ∀ i o, s i = some o → st i = none := fun i o hs => by
    cases hst : st i with
    | none => rfl
    | some o' =>
      obtain ⟨g, sz, cs, e, a, b, _⟩ := I1.obj i o hs
      obtain ⟨g', sz', cs', e', a', b', _⟩ := hI.obj i o' hst
      rw [old i a'] at b; cases b
  have X1 : Ext G w (G.back G1 st) w' := by
    refine ⟨⟨x.size, x.U, fun k hk => ⟨x.X k (.inl hk), fun ⟨i, o, sz, h1, h2⟩ => (hI.lt i k sz h2).2.2 hk⟩, fun k hk => x.kept k (.inl hk), fun i hu => ?_, fun i g sz hu hb cs e hc => ?_⟩, x.R, x.res, x.out, x.B⟩
    · show (if (st i).isSome then G.b i else G1.b i) = none ∨ (if (st i).isSome then G.b i else G1.b i) = G.b i
      cases hst : st i with
      | some o => exact .inr (by simp)
      | none => exact .inl (by simp [old i hu])
    · have hb : (if (st i).isSome then G.b i else G1.b i) = some (g, sz) := hb
      cases hst : st i with
      | some o =>
        rw [hst] at hb
        simp at hb
        exact ⟨cs, by rw [x.kept g (hfx i o g sz hst hb)]; exact hc, rfl⟩
      | none =>
        rw [hst] at hb
        simp [old i hu] at hb
  have pl : ∀ {c : AC} {v : Value}, plain s c → RC G1 w' c v → RC (G.back G1 st) w' c v := fun {c v} hp hc => by
    cases hc with
    | v y h => exact .v _ h
    | arr id off len A cap hn hc hm h =>
      obtain ⟨o, ho⟩ := hp
      refine .arr id off len A cap hn hc hm fun g sz hb => h g sz ?_
      have hb : (if (st id).isSome then G.b id else G1.b id) = some (g, sz) := hb
      rw [new id o ho] at hb
      exact hb
    | _ => exact hp.elim
  refine ⟨G.back G1 st, r, beside st s, v, hK new, he, X1, ⟨fun i o hi => ?_, fun i g sz hb => ?_, fun i i' g sz sz' h1 h2 => ?_, fun k hk => I1.X k hk.1, I1.new⟩, ?_⟩
  · unfold beside at hi
    cases hst : st i with
    | some o' =>
      rw [hst] at hi
      cases hi
      obtain ⟨g, sz, cs, e, a, b, c, d, f', k⟩ := hI.obj i o hst
      exact ⟨g, sz, cs, e, x.U i a, by show (if (st i).isSome then G.b i else G1.b i) = _; rw [hst]; exact b, by rw [x.kept g (hfx i o g sz hst b)]; exact c, d, f', fun j c v p q => (k j c v p q).ext X1⟩
    | none =>
      rw [hst] at hi
      obtain ⟨g, sz, cs, e, a, b, c, d, f', k⟩ := I1.obj i o hi
      exact ⟨g, sz, cs, e, a, by show (if (st i).isSome then G.b i else G1.b i) = _; rw [hst]; exact b, c, d, f', fun j c v p q => pl (p2 i o hi j c p) (k j c v p q)⟩
  · have hb : (if (st i).isSome then G.b i else G1.b i) = some (g, sz) := hb
    cases hst : st i with
    | some o =>
      rw [hst] at hb
      have hb : G.b i = some (g, sz) := hb
      obtain ⟨a, b, c⟩ := hI.lt i g sz hb
      exact ⟨x.U i a, Nat.lt_of_lt_of_le b x.size, fun hX => hX.2 ⟨i, o, sz, hst, hb⟩⟩
    | none =>
      rw [hst] at hb
      obtain ⟨a, b, c⟩ := I1.lt i g sz hb
      exact ⟨a, b, fun hX => c hX.1⟩
  · have h1 : (if (st i).isSome then G.b i else G1.b i) = some (g, sz) := h1
    have h2 : (if (st i').isSome then G.b i' else G1.b i') = some (g, sz') := h2
    cases hst : st i with
    | some o =>
      rw [hst] at h1
      have h1 : G.b i = some (g, sz) := h1
      cases hst' : st i' with
      | some o' =>
        rw [hst'] at h2
        exact hI.inj i i' g sz sz' h1 h2
      | none =>
        rw [hst'] at h2
        exact absurd (x.X g (hfx i o g sz hst h1)) (I1.lt i' g sz' h2).2.2
    | none =>
      rw [hst] at h1
      cases hst' : st i' with
      | some o' =>
        rw [hst'] at h2
        have h2 : G.b i' = some (g, sz') := h2
        exact absurd (x.X g (hfx i' o' g sz' hst' h2)) (I1.lt i g sz h1).2.2
      | none =>
        rw [hst'] at h2
        exact I1.inj i i' g sz sz' h1 h2
  · cases hrv with
    | c y v h => exact .c y v (pl p1 h)
    | g cs vs hl h => exact .g cs vs hl fun j c v h1 h2 => pl (p1 j c h1) (h j c v h1 h2)
    | t xs vs hl h => exact p1.elim
end Go.Proofs.YtnafgpgbedcdnaaDoor.D.Pm
namespace Go.Proofs.YtnafgpgbedcdnaaDoor.D.Pm
set_option linter.unusedVariables false
set_option linter.unusedSimpArgs false
open Go
/-! ### things that a clone has of its own: arrays of arrays, each row of a kind that its length tells -/
/-- a cell's kind -/
inductive Ty where
  | I | S | B
  | L (sz : Nat)
/-- the arrays that are there: how many cells a row has, and how many rows -/
abbrev Tab := Nat → Option (Nat × Nat)
def Tab.dom (L : Tab) : Nat → Bool := fun i => (L i).isSome
def okc (L : Tab) : Ty → AC → Prop
  | .I, c => ∃ n, c = .v (.int .i64 n)
  | .S, c => ∃ s, c = .v (.string s)
  | .B, c => ∃ b, c = .v (.bool b)
  | .L k, c => c = .v (.slice none 0 0) ∨ ∃ id n, c = .arr id 0 n ∧ L id = some (k, n)
abbrev RT := Nat → List Ty
def okR (R : RT) (L : Tab) (sz : Nat) (r : List AC) : Prop := F2 (okc L) (R sz) r
def Typd (R : RT) (L : Tab) (s : Sto) : Prop := ∀ id sz n, L id = some (sz, n) → ∃ rows, s id = some (.ar sz rows) ∧ rows.length = n ∧ ∀ r ∈ rows, r.length = sz ∧ okR R L sz r
def TLe (L L' : Tab) : Prop := ∀ i p, L i = some p → L' i = some p
def Fresh (L : Tab) (s : Sto) : Prop := ∀ i p, L i = some p → s i = none
def Tab.or (L L' : Tab) : Tab := fun i => match L i with | some p => some p | none => L' i
def Tab.one (id sz n : Nat) : Tab := fun i => if i = id then some (sz, n) else none
theorem TLe.refl (L : Tab) : TLe L L := fun _ _ h => h
theorem TLe.trans {L L' L2 : Tab} (h : TLe L L') (h' : TLe L' L2) : TLe L L2 := fun i p hi => h' i p (h i p hi)
theorem TLe.dom {L L' : Tab} (h : TLe L L') : ∀ i, L.dom i = true → L'.dom i = true := fun i hi => by
  unfold Tab.dom at *
  cases hl : L i with
  | none => rw [hl] at hi; cases hi
  | some p => rw [h i p hl]; rfl
theorem Tab.or_l (L L' : Tab) : TLe L (L.or L') := fun i p h => by unfold Tab.or; rw [h]
theorem Tab.or_r {L L' : Tab} (h : ∀ i p, L' i = some p → L i = none) : TLe L' (L.or L') := fun i p hi => by unfold Tab.or; rw [h i p hi]; exact hi
theorem Tab.or_cases {L L' : Tab} {i : Nat} {p : Nat × Nat} (h : (L.or L') i = some p) : L i = some p ∨ L' i = some p := by
  unfold Tab.or at h
  split at h
  · cases h; exact .inl ‹_›
  · exact .inr h
theorem Tab.one_at (id sz n : Nat) : Tab.one id sz n id = some (sz, n) := by unfold Tab.one; rw [if_pos rfl]
theorem Tab.one_eq {id sz n i : Nat} {p : Nat × Nat} (h : Tab.one id sz n i = some p) : i = id ∧ p = (sz, n) := by
  unfold Tab.one at h
  split at h
  · cases h; exact ⟨‹_›, rfl⟩
  · cases h
theorem okc.mono {L L' : Tab} (h : TLe L L') : ∀ {t : Ty} {c : AC}, okc L t c → okc L' t c
  | .I, _, hc => hc
  | .S, _, hc => hc
  | .B, _, hc => hc
  | .L _, _, hc => hc.imp id fun ⟨i, n, h1, h2⟩ => ⟨i, n, h1, h _ _ h2⟩
theorem F2.imp {α β : Type} {R R' : α → β → Prop} (h : ∀ a b, R a b → R' a b) : ∀ {l : List α} {m : List β}, F2 R l m → F2 R' l m
  | _, _, .nil => .nil
  | _, _, .cons a t => .cons (h _ _ a) (t.imp h)
theorem F2.snoc {α β : Type} {R : α → β → Prop} {a : α} {b : β} (h : R a b) : ∀ {l : List α} {m : List β}, F2 R l m → F2 R (l ++ [a]) (m ++ [b])
  | _, _, .nil => .cons h .nil
  | _, _, .cons a t => .cons a (t.snoc h)
theorem okR.mono {R : RT} {L L' : Tab} (h : TLe L L') {sz : Nat} {r : List AC} (hr : okR R L sz r) : okR R L' sz r := F2.imp (fun _ _ => okc.mono h) hr
/-- the arrays stay, if what they are made of stays -/
theorem Typd.keep {R : RT} {L : Tab} {s s' : Sto} (h : Typd R L s) (k : ∀ i p o, L i = some p → s i = some o → s' i = some o) : Typd R L s' := fun id sz n hi =>
  let ⟨rows, h1, h2, h3⟩ := h id sz n hi
  ⟨rows, k id _ _ hi h1, h2, h3⟩
theorem Typd.le {R : RT} {L : Tab} {s s' : Sto} (h : Typd R L s) (k : Le s s') : Typd R L s' := h.keep fun i _ o _ ho => k i o ho
theorem Typd.or {R : RT} {L L' : Tab} {s : Sto} (h : Typd R L s) (h' : Typd R L' s) (d : ∀ i p, L' i = some p → L i = none) : Typd R (L.or L') s := fun id sz n hi => by
  rcases Tab.or_cases hi with hi | hi
  · obtain ⟨rows, h1, h2, h3⟩ := h id sz n hi
    exact ⟨rows, h1, h2, fun r hr => ⟨(h3 r hr).1, (h3 r hr).2.mono (Tab.or_l L L')⟩⟩
  · obtain ⟨rows, h1, h2, h3⟩ := h' id sz n hi
    exact ⟨rows, h1, h2, fun r hr => ⟨(h3 r hr).1, (h3 r hr).2.mono (Tab.or_r d)⟩⟩
/-- one array more, of things that are there -/
theorem Typd.add {R : RT} {L : Tab} {s : Sto} (h : Typd R L s) {id sz : Nat} {rows : List (List AC)} (hs : s id = some (.ar sz rows)) (hn : L id = none) (hr : ∀ r ∈ rows, r.length = sz ∧ okR R L sz r) : Typd R (L.or (Tab.one id sz rows.length)) s := fun i z n hi => by
  have hL := Tab.or_l L (Tab.one id sz rows.length)
  rcases Tab.or_cases hi with hi | hi
  · obtain ⟨rows', h1, h2, h3⟩ := h i z n hi
    exact ⟨rows', h1, h2, fun r hr => ⟨(h3 r hr).1, (h3 r hr).2.mono hL⟩⟩
  · obtain ⟨rfl, e⟩ := Tab.one_eq hi
    cases e
    exact ⟨rows, hs, rfl, fun r hq => ⟨(hr r hq).1, (hr r hq).2.mono hL⟩⟩
/-- a row is written -/
theorem Typd.set {R : RT} {L : Tab} {s : Sto} (h : Typd R L s) {id sz n : Nat} (hi : L id = some (sz, n)) {rows : List (List AC)} (hs : s id = some (.ar sz rows)) {k : Nat} {r : List AC} (hr : r.length = sz ∧ okR R L sz r) : Typd R L (upd s id (.ar sz (rows.set k r))) := fun i z m hm => by
  by_cases e : i = id
  · subst e
    rw [hi] at hm
    cases hm
    obtain ⟨rows', h1, h2, h3⟩ := h i sz n hi
    rw [hs] at h1
    cases h1
    refine ⟨_, upd_same _ _ _, by rw [List.length_set]; exact h2, fun q hq => ?_⟩
    rcases List.mem_or_eq_of_mem_set hq with hq | hq
    · exact h3 q hq
    · rw [hq]; exact hr
  · obtain ⟨rows', h1, h2⟩ := h i z m hm
    exact ⟨rows', by rw [upd_ne _ e]; exact h1, h2⟩
theorem Fz.mono {D D' : Nat → Bool} {s s' : Sto} (hD : ∀ i, D i = true → D' i = true) (hs : ∀ i o, D i = true → s i = some o → s' i = some o) {c c' : AC} (h : Fz D s c c') : Fz D' s' c c' := by
  induction h with
  | refl c => exact .refl c
  | nil sz => exact .nil sz
  | ptr id off cs hd h => exact .ptr id off cs (hD _ hd) (hs _ _ hd h)
  | arr id off len sz rows ys hd h hl hy hr _ ih => exact .arr id off len sz rows ys (hD _ hd) (hs _ _ hd h) hl hy hr ih
  | sl sz xs ys hl hr _ ih => exact .sl sz xs ys hl hr ih
/-- a new array, seen settled -/
theorem Fz.arr2 {D : Nat → Bool} {st : Sto} {id sz : Nat} {rows ys : List (List AC)} (hd : D id = true) (hs : st id = some (.ar sz rows)) (h : F2 (F2 (Fz D st)) rows ys) (hr : ∀ r ∈ ys, r.length = sz) : Fz D st (.arr id 0 rows.length) (.sl sz ys) := by
  obtain ⟨h1, h2⟩ := h.get
  refine .arr id 0 rows.length sz rows ys hd hs (by omega) h1.symm (fun i r hi => hr r (List.mem_of_getElem? hi)) fun i r r' j c c' a b c1 c2 => ?_
  rw [Nat.zero_add] at a
  exact (h2 i r r' a b).get.2 j c c' c1 c2
/-- what a clone came to: cells of these kinds that stand for ys, all that they tell of is new -/
structure Own (R : RT) (st s : Sto) (L : Tab) (ts : List Ty) (xs ys : List AC) : Prop where
  mk ::
  le : Le st s
  new : Fresh L st
  ty : Typd R L s
  fz : F2 (Fz L.dom s) xs ys
  ok : F2 (okc L) ts xs
theorem Typd.some {R : RT} {L : Tab} {s : Sto} (h : Typd R L s) {i : Nat} {p : Nat × Nat} (hi : L i = some p) : ∃ o, s i = some o := let ⟨rows, h1, _⟩ := h i p.1 p.2 hi; ⟨_, h1⟩
/-- cells of a kind are plain -/
theorem okc.plain {R : RT} {L : Tab} {s : Sto} (h : Typd R L s) : ∀ {t : Ty} {c : AC}, okc L t c → plain s c
  | .I, _, ⟨n, e⟩ => e ▸ trivial
  | .S, _, ⟨n, e⟩ => e ▸ trivial
  | .B, _, ⟨n, e⟩ => e ▸ trivial
  | .L _, _, .inl e => e ▸ trivial
  | .L _, _, .inr ⟨i, n, e, hi⟩ => by subst e; exact h.some hi
def only1 (L : Tab) (s : Sto) : Sto := fun i => if L.dom i = true then s i else none
theorem only1_le (L : Tab) (s : Sto) : Le (only1 L s) s := fun i o h => by unfold only1 at h; split at h; exact h; cases h
theorem Typd.only {R : RT} {L : Tab} {s : Sto} (h : Typd R L s) : Typd R L (only1 L s) := h.keep fun i p o hi ho => by
  unfold only1
  rw [if_pos (by unfold Tab.dom; rw [hi]; rfl)]; exact ho
theorem F2.mem_r {α β : Type} {R : α → β → Prop} : ∀ {l : List α} {m : List β}, F2 R l m → ∀ (j : Nat) b, m[j]? = some b → ∃ a, l[j]? = some a ∧ R a b
  | _, _, .nil, j, b, h => by simp at h
  | _, _, .cons (a := a) h t, 0, b, hb => by cases hb; exact ⟨a, rfl, h⟩
  | _, _, .cons h t, j + 1, b, hb => t.mem_r j b hb
theorem flat_row {sz : Nat} : ∀ {rows : List (List AC)} {j : Nat} {c : AC}, rows.flatten[j]? = some c → ∃ r ∈ rows, ∃ k : Nat, r[k]? = some c
  | [], j, c, h => by simp at h
  | r :: l, j, c, h => by
    rw [List.flatten_cons] at h
    by_cases hj : j < r.length
    · rw [List.getElem?_append_left hj] at h
      exact ⟨r, List.mem_cons_self .., j, h⟩
    · rw [List.getElem?_append_right (by omega)] at h
      obtain ⟨q, hq, k, hk⟩ := flat_row (sz := sz) h
      exact ⟨q, List.mem_cons_of_mem _ hq, k, hk⟩
theorem Typd.plain {R : RT} {L : Tab} {s : Sto} (h : Typd R L s) : plainO (only1 L s) := fun i o hi j c hc => by
  have h' := h.only
  unfold only1 at hi
  split at hi
  · rename_i hd
    unfold Tab.dom at hd
    cases hl : L i with
    | none => rw [hl] at hd; cases hd
    | some p =>
      obtain ⟨rows, h1, h2, h3⟩ := h i p.1 p.2 hl
      rw [h1] at hi
      cases hi
      obtain ⟨r, hr, k, hk⟩ := flat_row (sz := p.1) hc
      obtain ⟨t, _, ht⟩ := (h3 r hr).2.mem_r k c hk
      exact ht.plain h'
  · cases hi
theorem Does.weak {P : Program} {f : FuncId} {as : List AV} {st : Sto} {K K' : AV → Sto → Prop} (h : Does P f as st K) (k : ∀ r s, K r s → ∃ s', Le s' s ∧ K' r s') : Does P f as st K' :=
  ⟨h.fn, fun G w vs hI hv => (h.out G w vs hI hv).mono fun e w' ⟨G', r, st', v, h1, h2, h3, h4, h5⟩ => let ⟨s', a, b⟩ := k r st' h1; ⟨G', r, s', v, b, h2, h3, h4.le a, h5⟩⟩
/-- a call that makes something of its own, with live things lent -/
theorem Does.lendOwn {P : Program} {R : RT} {f : FuncId} {as as' : List AV} {st : Sto} {ts : List Ty} {ys : List AC} {K : AV → Sto → Prop} (hl : as'.length = as.length) (hv : ∀ (j : Nat) r r', as[j]? = some r → as'[j]? = some r' → FV (fun _ => true) st r r')
    (h : Does P f as' (fun _ => none) fun r s => ∃ L xs, r = .g xs ∧ Own R (fun _ => none) s L ts xs ys) (k : ∀ L xs s, Own R st s L ts xs ys → K (.g xs) s) : Does P f as st K := by
  refine Does.lend hl hv (h.weak fun r s ⟨L, xs, e, o⟩ => ⟨only1 L s, only1_le L s, ?_⟩)
  have ho := o.ty.only
  have hb : ∀ i o', L.dom i = true → s i = some o' → only1 L s i = some o' := fun i o' hd hs => by unfold only1; rw [if_pos hd]; exact hs
  subst e
  refine ⟨fun j c hj => ?_, o.ty.plain, fun hn => k L xs _ ?_⟩
  · obtain ⟨t, _, ht⟩ := o.ok.mem_r j c hj
    exact ht.plain ho
  have hnew : ∀ i p, L i = some p → st i = none := fun i p hi => by
    obtain ⟨o', ho'⟩ := ho.some hi
    exact hn i o' ho'
  have hbe : ∀ i o', L.dom i = true → s i = some o' → beside st (only1 L s) i = some o' := fun i o' hd hs => by
    unfold beside
    have hd' := hd
    unfold Tab.dom at hd
    cases hl : L i with
    | none => rw [hl] at hd; cases hd
    | some p => rw [hnew i p hl]; exact hb i o' hd' hs
  refine ⟨fun i o' hi => by unfold beside; rw [hi], hnew, o.ty.keep fun i p o' hi hs => hbe i o' (by unfold Tab.dom; rw [hi]; rfl) hs, F2.imp (fun a b hf => hf.mono (fun _ h => h) hbe) o.fz, o.ok⟩
/-- a call that tells a truth, with live things lent -/
theorem Is.lend {P : Program} {f : FuncId} {as as' : List AV} {b : Bool} {st : Sto} {K : AV → Sto → Prop} (h : Is P f as' (vB b)) (hl : as'.length = as.length) (hv : ∀ (j : Nat) r r', as[j]? = some r → as'[j]? = some r' → FV (fun _ => true) st r r') (k : K (vB b) st) : Does P f as st K :=
  Does.lend hl hv (Does.mono (h (fun _ => none)) fun r s hh => by
    obtain ⟨rfl, rfl⟩ := hh
    refine ⟨trivial, (fun i o h => by cases h), fun _ => ?_⟩
    have : beside st (fun _ => none) = st := by funext i; unfold beside; cases st i <;> rfl
    rw [this]; exact k)
end Go.Proofs.YtnafgpgbedcdnaaDoor.D.Pm
namespace Go.Proofs.YtnafgpgbedcdnaaDoor.D.Pm
set_option linter.unusedVariables false
set_option linter.unusedSimpArgs false
open Go
theorem F2.len {α β : Type} {R : α → β → Prop} {l : List α} {m : List β} (h : F2 R l m) : l.length = m.length := h.get.1
/-- a list that grows, of things that are its own -/
def GrowO (R : RT) (B : Sto) (sz : Nat) (s : Sto) (a : AC) (ys : List (List AC)) : Prop :=
  ∃ rows L, Grow B sz s a rows ∧ Fresh L B ∧ Typd R L s ∧ F2 (F2 (Fz L.dom s)) rows ys ∧ (∀ r ∈ rows, r.length = sz ∧ okR R L sz r) ∧ ∀ id n, a = .arr id 0 n → L id = none
theorem GrowO.nil {R : RT} {B s : Sto} {sz : Nat} (h : Le B s) : GrowO R B sz s (.v (.slice none 0 0)) [] :=
  ⟨[], fun _ => none, .nil h, (fun _ _ h => by cases h), (fun _ _ _ h => by cases h), .nil, (fun _ h => by cases h), fun _ _ h => by cases h⟩
theorem GrowO.le {R : RT} {B s : Sto} {sz : Nat} {a : AC} {ys : List (List AC)} (h : GrowO R B sz s a ys) : Le B s := by
  obtain ⟨rows, L, h, _⟩ := h; exact h.1
theorem Fz.dm {L L' : Tab} {s s' : Sto} (hL : TLe L L') (hs : ∀ i p o, L i = some p → s i = some o → s' i = some o) {c c' : AC} (h : Fz L.dom s c c') : Fz L'.dom s' c c' :=
  h.mono (TLe.dom hL) fun i o hd ho => by
    unfold Tab.dom at hd
    cases hl : L i with
    | none => rw [hl] at hd; cases hd
    | some p => exact hs i p o hl ho
theorem Grow.appN {st0 st : Sto} {z : TI} {a : AC} {rows ys : List (List AC)} {K : AV → Sto → Prop} (hg : Grow st0 z.size st a rows) (h1 : rows.length + ys.length ≤ maxLen) (h2 : (rows.length + ys.length) * z.bytes ≤ 140737488355328)
    (k : ∀ a' st', Grow st0 z.size st' a' (rows ++ ys) → Kept a st st' → (∀ i n, a' = .arr i 0 n → st i = none) → K (.c a') st') : App st z a ys K := by
  obtain ⟨hle, hg⟩ := hg
  rcases hg with ⟨rfl, rfl⟩ | ⟨id, rfl, hs, h0⟩
  · refine ⟨⟨by simpa using h1, by simpa using h2, fun he => ?_, fun hne id hid => ?_⟩⟩
    · subst he; exact k _ _ (.nil hle) (fun i o h _ => h) (fun _ _ e => by cases e)
    · exact k _ _ ⟨hle.up hid, .inr ⟨id, by simp, by rw [upd_same]; rfl, hle.none hid⟩⟩ (fun i o hi _ => upd_old hid hi) (fun i n e => by cases e; exact hid)
  · refine ⟨⟨rfl, rows, hs, Nat.le_refl _, h1, h2, fun id' hid => ?_⟩⟩
    rw [List.take_length]
    have hn : id ≠ id' := fun e => by subst e; rw [hs] at hid; cases hid
    refine k _ _ ⟨(hle.dl h0).up (by simp [del, hn.symm, hid]), .inr ⟨id', by simp, upd_same _ _ _, hle.none hid⟩⟩ (fun i o hi hna => ?_) (fun i n e => by cases e; exact hid)
    have hi1 : i ≠ id := fun e => by subst e; exact hna _ rfl
    have hi2 : i ≠ id' := fun e => by subst e; rw [hi] at hid; cases hid
    simp [upd, del, hi1, hi2, hi]
theorem GrowO.app {R : RT} {B s s2 : Sto} {z : TI} {a : AC} {ys : List (List AC)} {L' : Tab} {xs yr : List AC} {K : AV → Sto → Prop} (h : GrowO R B z.size s a ys) (o : Own R s s2 L' (R z.size) xs yr) (hx : xs.length = z.size)
    (h1 : ys.length + 1 ≤ maxLen) (h2 : (ys.length + 1) * z.bytes ≤ 140737488355328) (k : ∀ a' s3, GrowO R B z.size s3 a' (ys ++ [yr]) → Kept a s2 s3 → K (.c a') s3) : App s2 z a [xs] K := by
  obtain ⟨rows, L, hg, hn, ht, hf, hr, hne⟩ := h
  have hl := hf.len
  have hg2 : Grow B z.size s2 a rows := ⟨hg.1.trans o.le, hg.2.imp id fun ⟨i, a1, a2, a3⟩ => ⟨i, a1, o.le i _ a2, a3⟩⟩
  have hd : ∀ i p, L' i = some p → L i = none := fun i p hi => by
    cases hL : L i with
    | none => rfl
    | some q => obtain ⟨ob, hob⟩ := ht.some hL; rw [o.new i p hi] at hob; cases hob
  have hd2 : ∀ i n, a = .arr i 0 n → L' i = none := fun i n e => by
    rcases hg.2 with ⟨e1, _⟩ | ⟨j, e1, e2, _⟩
    · rw [e1] at e; cases e
    · rw [e1] at e
      cases e
      cases hL : L' i with
      | none => rfl
      | some q => rw [o.new i q hL] at e2; cases e2
  have hL1 := Tab.or_l L L'
  have hL2 := Tab.or_r hd
  have t2 : Typd R (L.or L') s2 := (ht.le o.le).or o.ty hd
  refine Grow.appN hg2 (by rw [hl]; exact h1) (by rw [hl]; exact h2) fun a' s3 hg3 hk hnw => k a' s3 ?_ hk
  have hk2 : ∀ i p ob, (L.or L') i = some p → s2 i = some ob → s3 i = some ob := fun i p ob hi hs => hk i ob hs fun n e => by
    rcases Tab.or_cases hi with hi | hi
    · rw [hne i n e] at hi; cases hi
    · rw [hd2 i n e] at hi; cases hi
  have t3 := t2.keep hk2
  refine ⟨rows ++ [xs], L.or L', hg3, fun i p hi => ?_, t3, F2.snoc ?_ (F2.imp (fun _ _ => F2.imp fun c c' hc => ?_) hf), fun r hq => ?_, fun i n e => ?_⟩
  · rcases Tab.or_cases hi with hi | hi
    · exact hn i p hi
    · exact hg.1.none (o.new i p hi)
  · exact F2.imp (fun c c' hc => Fz.dm hL2 (fun i p ob hi hs => hk2 i p ob (hL2 i p hi) hs) hc) o.fz
  · exact Fz.dm hL1 (fun i p ob hi hs => hk2 i p ob (hL1 i p hi) (o.le i ob hs)) hc
  · rcases List.mem_append.1 hq with hq | hq
    · exact ⟨(hr r hq).1, (hr r hq).2.mono hL1⟩
    · simp at hq; subst hq; exact ⟨hx, F2.imp (fun _ _ => okc.mono hL2) o.ok⟩
  · rcases hg3.2 with ⟨e1, _⟩ | ⟨j, e1, e2, e3⟩
    · rw [e1] at e; cases e
    · rw [e1] at e
      cases e
      cases hL : (L.or L') i with
      | none => rfl
      | some q =>
        obtain ⟨ob, ho⟩ := t2.some hL
        rw [hnw i _ e1] at ho; cases ho
/-- all of the list -/
theorem GrowO.done {R : RT} {B s : Sto} {sz : Nat} {a : AC} {ys : List (List AC)} (h : GrowO R B sz s a ys) (hy : ∀ y ∈ ys, y.length = sz) : ∃ L, Fresh L B ∧ Typd R L s ∧ Fz L.dom s a (.sl sz ys) ∧ okc L (.L sz) a := by
  obtain ⟨rows, L, hg, hn, ht, hf, hr, hne⟩ := h
  rcases hg.2 with ⟨rfl, rfl⟩ | ⟨id, rfl, e2, e3⟩
  · cases hf
    exact ⟨L, hn, ht, .nil sz, .inl rfl⟩
  · have hL := Tab.or_l L (Tab.one id sz rows.length)
    have hid : L id = none := hne id _ rfl
    have hd : (L.or (Tab.one id sz rows.length)) id = some (sz, rows.length) := by unfold Tab.or; rw [hid]; exact Tab.one_at ..
    refine ⟨L.or (Tab.one id sz rows.length), fun i p hi => ?_, ht.add e2 hid hr, Fz.arr2 (by unfold Tab.dom; rw [hd]; rfl) e2 (F2.imp (fun _ _ => F2.imp fun _ _ hc => Fz.dm hL (fun _ _ _ _ h => h) hc) hf) hy, .inr ⟨id, _, rfl, hd⟩⟩
    rcases Tab.or_cases hi with hi | hi
    · exact hn i p hi
    · rw [(Tab.one_eq hi).1]; exact e3
end Go.Proofs.YtnafgpgbedcdnaaDoor.D.Pm
namespace Go.Proofs.YtnafgpgbedcdnaaDoor.D.Pm
set_option linter.unusedVariables false
set_option linter.unusedSimpArgs false
open Go
/-- a list cloned, row by row -/
def CL (st s : Sto) (sz : Nat) (rows : List (List AC)) (r : AV) : Prop :=
  (rows = [] ∧ r = .c (.v (.slice none 0 0)) ∧ s = st) ∨ ∃ id, st id = none ∧ r = .c (.arr id 0 rows.length) ∧ s = upd st id (.ar sz rows)
theorem CL.le {st s : Sto} {sz : Nat} {rows : List (List AC)} {r : AV} (h : CL st s sz rows r) : Le st s := by
  rcases h with ⟨_, _, rfl⟩ | ⟨id, h1, _, rfl⟩
  · exact .refl _
  · exact .upd h1
/-- a list cloned, whose rows tell of nothing -/
theorem CL.own {R : RT} {st s : Sto} {sz : Nat} {rows : List (List AC)} {r : AV} (h : CL st s sz rows r) (hr : ∀ q ∈ rows, q.length = sz ∧ okR R (fun _ => none) sz q) : ∃ L a, r = .c a ∧ Own R st s L [.L sz] [a] [.sl sz rows] := by
  rcases h with ⟨rfl, rfl, rfl⟩ | ⟨id, h1, rfl, rfl⟩
  · exact ⟨fun _ => none, _, rfl, .refl _, (fun _ _ h => by cases h), (fun _ _ _ h => by cases h), .cons (.nil sz) .nil, .cons (.inl rfl) .nil⟩
  · refine ⟨Tab.one id sz rows.length, _, rfl, .upd h1, fun i p hi => ?_, fun i z n hi => ?_, .cons (Fz.arr2 ?_ (upd_same _ _ _) ?_ fun q hq => (hr q hq).1) .nil, .cons (.inr ⟨id, _, rfl, Tab.one_at ..⟩) .nil⟩
    · rw [(Tab.one_eq hi).1]; exact h1
    · obtain ⟨rfl, e⟩ := Tab.one_eq hi
      cases e
      exact ⟨rows, upd_same _ _ _, rfl, fun q hq => ⟨(hr q hq).1, (hr q hq).2.mono fun _ _ h => by cases h⟩⟩
    · unfold Tab.dom; rw [Tab.one_at]; rfl
    · exact F2r rows
where F2r {D : Nat → Bool} {st : Sto} : ∀ l : List (List AC), F2 (F2 (Fz D st)) l l
  | [] => .nil
  | q :: l => .cons (F2.same q) (F2r l)
theorem F2.append {α β : Type} {R : α → β → Prop} : ∀ {l : List α} {m : List β} {l' : List α} {m' : List β}, F2 R l m → F2 R l' m' → F2 R (l ++ l') (m ++ m')
  | _, _, _, _, .nil, h => h
  | _, _, _, _, .cons a t, h => .cons a (t.append h)
/-- one thing behind the other -/
theorem Own.app {R : RT} {st s s2 : Sto} {L L2 : Tab} {ts ts2 : List Ty} {xs ys xs2 ys2 : List AC} (h : Own R st s L ts xs ys) (h2 : Own R s s2 L2 ts2 xs2 ys2) : Own R st s2 (L.or L2) (ts ++ ts2) (xs ++ xs2) (ys ++ ys2) := by
  have hd : ∀ i p, L2 i = some p → L i = none := fun i p hi => by
    cases hL : L i with
    | none => rfl
    | some q => obtain ⟨ob, hob⟩ := h.ty.some hL; rw [h2.new i p hi] at hob; cases hob
  have hl := Tab.or_l L L2
  have hr := Tab.or_r hd
  refine ⟨h.le.trans h2.le, fun i p hi => ?_, (h.ty.le h2.le).or h2.ty hd, F2.append (F2.imp (fun _ _ hf => Fz.dm hl (fun i _ ob _ hs => h2.le i ob hs) hf) h.fz) (F2.imp (fun _ _ hf => Fz.dm hr (fun _ _ _ _ h => h) hf) h2.fz), F2.append (F2.imp (fun _ _ => okc.mono hl) h.ok) (F2.imp (fun _ _ => okc.mono hr) h2.ok)⟩
  rcases Tab.or_cases hi with hi | hi
  · exact h.new i p hi
  · exact h.le.none (h2.new i p hi)
/-- an array of things of which the first i are its own already, besides other things -/
structure InPl (R : RT) (st s : Sto) (id sz i : Nat) (ys : List (List AC)) (ts : List Ty) (xs zs : List AC) (L : Tab) (rows : List (List AC)) : Prop where
  mk ::
  new : Fresh L st
  ty : Typd R L s
  no : L id = none
  at_ : s id = some (.ar sz (rows ++ ys.drop i))
  len : rows.length = i
  fzr : F2 (F2 (Fz L.dom s)) rows (ys.take i)
  okr : ∀ r ∈ rows, r.length = sz ∧ okR R L sz r
  fz : F2 (Fz L.dom s) xs zs
  ok : F2 (okc L) ts xs
theorem InPl.step {R : RT} {st s s2 : Sto} {id sz i : Nat} {ys : List (List AC)} {ts : List Ty} {xs zs : List AC} {L L2 : Tab} {rows : List (List AC)} (h : InPl R st s id sz i ys ts xs zs L rows) (hle : Le st s) (hi : i < ys.length) {rs : List AC}
    (o : Own R s s2 L2 (R sz) rs ys[i]) (hl : rs.length = sz) : InPl R st (upd s2 id (.ar sz (rows ++ rs :: ys.drop (i + 1)))) id sz (i + 1) ys ts xs zs (L.or L2) (rows ++ [rs]) := by
  have hd : ∀ j p, L2 j = some p → L j = none := fun j p hj => by
    cases hL : L j with
    | none => rfl
    | some q => obtain ⟨ob, hob⟩ := h.ty.some hL; rw [o.new j p hj] at hob; cases hob
  have hid2 : L2 id = none := by
    cases hL : L2 id with
    | none => rfl
    | some q => have := o.new id q hL; rw [h.at_] at this; cases this
  have hl1 := Tab.or_l L L2
  have hr1 := Tab.or_r hd
  have hno : (L.or L2) id = none := by unfold Tab.or; rw [h.no]; exact hid2
  have kp : ∀ j p ob, (L.or L2) j = some p → s2 j = some ob → upd s2 id (.ar sz (rows ++ rs :: ys.drop (i + 1))) j = some ob := fun j p ob hj hs => by
    rw [upd_ne _ (fun e => by rw [e, hno] at hj; cases hj)]; exact hs
  have f1 : ∀ {c c'}, Fz L.dom s c c' → Fz (L.or L2).dom (upd s2 id (.ar sz (rows ++ rs :: ys.drop (i + 1)))) c c' := fun hf => Fz.dm hl1 (fun j p ob hj hs => kp j p ob (hl1 j p hj) (o.le j ob hs)) hf
  have f2 : ∀ {c c'}, Fz L2.dom s2 c c' → Fz (L.or L2).dom (upd s2 id (.ar sz (rows ++ rs :: ys.drop (i + 1)))) c c' := fun hf => Fz.dm hr1 (fun j p ob hj hs => kp j p ob (hr1 j p hj) hs) hf
  refine ⟨fun j p hj => ?_, ((h.ty.le o.le).or o.ty hd).keep kp, hno, by rw [upd_same, List.append_assoc]; rfl, by rw [List.length_append, h.len]; rfl, ?_, fun r hr => ?_, F2.imp (fun _ _ => f1) h.fz, F2.imp (fun _ _ => okc.mono hl1) h.ok⟩
  · rcases Tab.or_cases hj with hj | hj
    · exact h.new j p hj
    · exact hle.none (o.new j p hj)
  · rw [List.take_add_one, List.getElem?_eq_getElem hi]
    exact F2.snoc (F2.imp (fun _ _ => f2) o.fz) (F2.imp (fun _ _ => F2.imp fun _ _ => f1) h.fzr)
  · rcases List.mem_append.1 hr with hr | hr
    · exact ⟨(h.okr r hr).1, (h.okr r hr).2.mono hl1⟩
    · simp at hr; subst hr; exact ⟨hl, F2.imp (fun _ _ => okc.mono hr1) o.ok⟩
/-- what else is written does not matter -/
theorem InPl.keep {R : RT} {st s s' : Sto} {id sz i : Nat} {ys : List (List AC)} {ts : List Ty} {xs zs : List AC} {L : Tab} {rows : List (List AC)} (h : InPl R st s id sz i ys ts xs zs L rows) (hid : s' id = s id) (k : ∀ j p ob, L j = some p → s j = some ob → s' j = some ob) : InPl R st s' id sz i ys ts xs zs L rows :=
  ⟨h.new, h.ty.keep k, h.no, hid.trans h.at_, h.len, F2.imp (fun _ _ => F2.imp fun _ _ hf => Fz.dm (.refl L) k hf) h.fzr, h.okr, F2.imp (fun _ _ hf => Fz.dm (.refl L) k hf) h.fz, h.ok⟩
/-- all rows are its own -/
theorem InPl.done {R : RT} {st s : Sto} {id sz : Nat} {ys : List (List AC)} {ts : List Ty} {xs zs : List AC} {L : Tab} {rows : List (List AC)} (h : InPl R st s id sz ys.length ys ts xs zs L rows) (hle : Le st s) (hn : st id = none) (hy : ∀ y ∈ ys, y.length = sz) :
    ∃ L', Own R st s L' (ts ++ [.L sz]) (xs ++ [.arr id 0 ys.length]) (zs ++ [.sl sz ys]) := by
  have hat := h.at_
  rw [List.drop_length, List.append_nil] at hat
  have hf := h.fzr
  rw [List.take_length] at hf
  have hL := Tab.or_l L (Tab.one id sz rows.length)
  have hd : (L.or (Tab.one id sz rows.length)) id = some (sz, rows.length) := by unfold Tab.or; rw [h.no]; exact Tab.one_at ..
  refine ⟨L.or (Tab.one id sz rows.length), hle, fun i p hi => ?_, h.ty.add hat h.no h.okr, F2.snoc ?_ (F2.imp (fun _ _ hf => Fz.dm hL (fun _ _ _ _ h => h) hf) h.fz), F2.snoc (.inr ⟨id, _, rfl, by rw [hd, h.len]⟩) (F2.imp (fun _ _ => okc.mono hL) h.ok)⟩
  · rcases Tab.or_cases hi with hi | hi
    · exact h.new i p hi
    · rw [(Tab.one_eq hi).1]; exact hn
  · have := Fz.arr2 (D := (L.or (Tab.one id sz rows.length)).dom) (by unfold Tab.dom; rw [hd]; rfl) hat (F2.imp (fun _ _ => F2.imp fun _ _ hc => Fz.dm hL (fun _ _ _ _ h => h) hc) hf) hy
    have e : AC.arr id 0 ys.length = .arr id 0 rows.length := by rw [h.len]
    rw [e]; exact this
/-- at its beginning -/
theorem InPl.start {R : RT} {st s s2 : Sto} {id sz : Nat} {ys : List (List AC)} {ts : List Ty} {xs zs : List AC} {L : Tab} (o : Own R st s L ts xs zs) (hid : s id = none) (k : ∀ j ob, L.dom j = true → s j = some ob → s2 j = some ob) (hs : s2 id = some (.ar sz ys)) : InPl R st s2 id sz 0 ys ts xs zs L [] := by
  have k' : ∀ j p ob, L j = some p → s j = some ob → s2 j = some ob := fun j p ob hj => k j ob (by unfold Tab.dom; rw [hj]; rfl)
  refine ⟨o.new, o.ty.keep k', ?_, hs, rfl, .nil, (fun _ h => by cases h), F2.imp (fun _ _ hf => Fz.dm (.refl L) k' hf) o.fz, o.ok⟩
  cases hL : L id with
  | none => rfl
  | some q => obtain ⟨ob, hob⟩ := o.ty.some hL; rw [hid] at hob; cases hob
theorem Own.keep {R : RT} {st s s' : Sto} {L : Tab} {ts : List Ty} {xs ys : List AC} (o : Own R st s L ts xs ys) (hle : Le st s') (k : ∀ j p ob, L j = some p → s j = some ob → s' j = some ob) : Own R st s' L ts xs ys :=
  ⟨hle, o.new, o.ty.keep k, F2.imp (fun _ _ hf => Fz.dm (.refl L) k hf) o.fz, o.ok⟩
/-- plain cells -/
theorem Own.cells {R : RT} {st : Sto} {ts : List Ty} {xs : List AC} (h : F2 (okc fun _ => none) ts xs) : Own R st st (fun _ => none) ts xs xs :=
  ⟨.refl _, (fun _ _ h => by cases h), (fun _ _ _ h => by cases h), F2.same xs, h⟩
/-- a box is no array of theirs -/
theorem typd_bx {R : RT} {L : Tab} {s : Sto} (h : Typd R L s) {i : Nat} {cs : List AC} (hs : s i = some (Ob.bx cs)) : L i = none := by
  cases hL : L i with
  | none => rfl
  | some p =>
    obtain ⟨rows, h1, _⟩ := h i p.1 p.2 hL
    rw [hs] at h1; cases h1
end Go.Proofs.YtnafgpgbedcdnaaDoor.D.Pm
namespace Go.Proofs.YtnafgpgbedcdnaaDoor.D.Pm
set_option linter.unusedVariables false
set_option linter.unusedSimpArgs false
open Go
variable {P : Program} {N : Nat}
/-- a list that lies in memory is not too long -/
theorem Pw.lenIn {ρ : Option Nat} {c : Code} {Q : Exit → Env → Sto → Prop} {env : Env} {st : Sto} {id j a off n : Nat} {o : Ob} (h : st id = some o) (hc : o.cells[j]? = some (.arr a off n)) (k : n ≤ maxLen → Pw (ρ := ρ) P N c Q env st) : Pw (ρ := ρ) P N c Q env st := by
  refine ⟨fun G w act hI hE => ?_⟩
  obtain ⟨g, sz, cs, e, _, _, _, _, hl, hr⟩ := hI.obj id o h
  have hj : j < cs.size := Nat.lt_of_lt_of_le (List.getElem?_eq_some_iff.1 hc).1 hl
  have := hr j _ _ hc (Array.getElem?_eq_getElem hj)
  generalize cs[j] = v at this
  cases this with
  | arr _ _ _ A cap hn h1 h2 _ => exact (k (Nat.le_trans h1 h2)).out G w act hI hE
/-- .. of rows -/
theorem Pw.lenRow {ρ : Option Nat} {c : Code} {Q : Exit → Env → Sto → Prop} {env : Env} {st : Sto} {id sz i j a off n : Nat} {rows : List (List AC)} {r : List AC} (h : st id = some (.ar sz rows)) (hs : ∀ q ∈ rows, q.length = sz) (hr : rows[i]? = some r) (hc : r[j]? = some (.arr a off n)) (k : n ≤ maxLen → Pw (ρ := ρ) P N c Q env st) : Pw (ρ := ρ) P N c Q env st :=
  Pw.lenIn (j := i * sz + j) h (flat_at hs hr hc) k
/-- own things, while they are changed -/
structure LInv (R : RT) (L : Tab) (s2 y : Sto) : Prop where
  mk ::
  ty : Typd R L y
  old : ∀ i, L i = none → y i = s2 i
theorem LInv.set {R : RT} {L : Tab} {s2 y : Sto} (h : LInv R L s2 y) {id sz n : Nat} (hi : L id = some (sz, n)) {rows : List (List AC)} (hs : y id = some (.ar sz rows)) {k : Nat} {r : List AC} (hr : r.length = sz ∧ okR R L sz r) : LInv R L s2 (upd y id (.ar sz (rows.set k r))) :=
  ⟨h.ty.set hi hs hr, fun i hn => by rw [upd_ne _ (fun e => by rw [e, hi] at hn; cases hn)]; exact h.old i hn⟩
theorem LInv.row {R : RT} {L : Tab} {s2 y : Sto} (h : LInv R L s2 y) {id sz n : Nat} (hi : L id = some (sz, n)) : ∃ rows, y id = some (.ar sz rows) ∧ rows.length = n ∧ (∀ q ∈ rows, q.length = sz) ∧ ∀ (k : Nat), k < n → ∃ r, rows[k]? = some r ∧ r.length = sz ∧ okR R L sz r := by
  obtain ⟨rows, h1, h2, h3⟩ := h.ty id sz n hi
  refine ⟨rows, h1, h2, fun q hq => (h3 q hq).1, fun k hk => ?_⟩
  have hk' : k < rows.length := by omega
  exact ⟨rows[k], List.getElem?_eq_getElem hk', h3 _ (List.getElem_mem hk')⟩
/-- a counted loop of as many rounds as a list may have -/
theorem Pw.rngL {ρ : Option Nat} {τ : Type} (ti : Nat) (n : Nat) (hn : n ≤ maxLen) (keep : List Nat) (u : Nat → τ → Env) (s : Nat → τ → Sto) (I : Nat → τ → Prop) {c : Code} {Q : Exit → Env → Sto → Prop} {env : Env} {st : Sto} (x0 : τ)
    (h0 : look env ti = some (vI .i64 0)) (h1 : EVe env (u 0 x0)) (h2 : Le (s 0 x0) st) (h3 : I 0 x0)
    (round : ∀ i x, i ≤ n → I i x → Pw (ρ := ρ) P N c (fun ex env' st' => match ex with | .normal => i < n ∧ look env' ti = some (vI .i64 (IntKind.i64.wrap ((i : Int) + 1))) ∧ EVe env' (sub env keep) ∧ ∃ y, EVe env' (u (i + 1) y) ∧ Le (s (i + 1) y) st' ∧ I (i + 1) y | ex => Q ex env' st')
      ((ti, vI .i64 (i : Nat)) :: (u i x ++ sub env keep)) (s i x)) : Pw (ρ := ρ) P N (.loop c) Q env st := by
  refine Pw.loop (σ := Nat × τ) (fun p => (ti, vI .i64 (p.1 : Nat)) :: (u p.1 p.2 ++ sub env keep)) (fun p => s p.1 p.2) (fun p => p.1 ≤ n ∧ I p.1 p.2) (fun p => n - p.1) ?_ ?_
  · exact ⟨(0, x0), .mk ⟨h0, h1.app (.sub _)⟩ h2, Nat.zero_le _, h3⟩
  · rintro ⟨i, x⟩ ⟨hi, hx⟩
    refine Pw.mono (round i x hi hx) fun ex env' st' h => ?_
    cases ex with
    | normal =>
      obtain ⟨k1, k2, k3, y, k4, k5, k6⟩ := h
      have e : IntKind.i64.wrap ((i : Int) + 1) = ((i + 1 : Nat) : Int) := by
        unfold maxLen at hn
        exact wrap_id (by omega) (by omega)
      rw [e] at k2
      exact ⟨(i + 1, y), .mk ⟨k2, k4.app k3⟩ k5, ⟨k1, k6⟩, by show n - (i + 1) < n - i; omega⟩
    | _ => exact h
end Go.Proofs.YtnafgpgbedcdnaaDoor.D.Pm
